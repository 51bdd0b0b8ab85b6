/- diff.Patch. -/
import Derived.Test.YtgiajfgeplekbaaP2
import Derived.Test.YtgiajfgeplekbaaP3
import Derived.Deep.Cut
set_option linter.unusedVariables false
set_option linter.unusedSimpArgs false
namespace Go.Proofs.Ytgiajfgeplekbaa
open Go.RowKit
theorem OkD.snoc {put : List Rw} {ds : List ByteArray} {i : Nat} (h : OkD put (ds.take i)) (hi : i < ds.length) (hn : there ds[i] put = false) (hl : ∀ j (hj : j + 1 = i), klt (ds[j]'(by omega)) ds[i]) : OkD put (ds.take (i + 1)) := by
  rw [List.take_succ_eq_append_getElem hi]
  refine ⟨List.pairwise_append.2 ⟨h.up, List.pairwise_singleton _ _, fun y hy z hz => ?_⟩, fun k hk => ?_⟩
  · rw [List.mem_singleton] at hz
    subst hz
    obtain ⟨t, ht, rfl⟩ := List.getElem_of_mem hy
    rw [List.length_take] at ht
    rw [List.getElem_take]
    obtain ⟨j, hj⟩ : ∃ j, j + 1 = i := ⟨i - 1, by omega⟩
    rcases Nat.lt_or_ge t j with h1 | h1
    · have h2 := List.pairwise_iff_getElem.1 h.up t j (by rw [List.length_take]; omega) (by rw [List.length_take]; omega) h1
      rw [List.getElem_take, List.getElem_take] at h2
      exact klt_trans h2 (hl j hj)
    · obtain rfl : t = j := by omega
      exact hl t hj
  · rcases List.mem_append.1 hk with h1 | h1
    · exact h.no k h1
    · rw [List.mem_singleton] at h1
      subst h1; exact hn
theorem OkD.nil (put : List Rw) : OkD put [] := ⟨List.Pairwise.nil, fun _ h => (by cases h)⟩
def PatchPost (w : World) (a b : List Rw) (ds : List ByteArray) (e : Ending) (w' : World) : Prop :=
  ∃ (P : Option Addr) (n c : Nat) (l : List Rw) (err : Int), e = .returned (.tuple #[.slice P n c, .int .i64 err]) ∧ Below w.heap.size w w' ∧ w'.ownsRow w.heap.size 29 3 (.slice P n c) n (rowCells l) ∧
    ((errP a b ≠ 0 ∧ err = errP a b ∧ l = []) ∨ (errP a b = 0 ∧ ((¬ OkD b ds ∧ err = 4 ∧ l = []) ∨ (OkD b ds ∧ err = 0 ∧ Patched a b ds l))))

set_option maxHeartbeats 16000000 in
set_option maxRecDepth 100000 in
theorem Patch_calls {base : Nat} {w : World} {A B D : Option Addr} {n c m d q f : Nat} {a b : List Rw} {ds : List ByteArray} (ha : Rd base 29 w 3 A n c (rowCells a)) (hb : Rd base 29 w 3 B m d (rowCells b)) (hd : Rd base 9 w 1 D q f (tCells ds)) (hn : n ≤ 10000) (hm : m ≤ 10000) (hq : q ≤ 10000) (hbs : base ≤ w.heap.size) :
    Calls Try.prog 29 #[.slice A n c, .slice B m d, .slice D q f] w (PatchPost w a b ds) := by
  have hcn := ha.count (enc := Rw.enc) (fun _ => rfl) (by omega)
  have hcm := hb.count (enc := Rw.enc) (fun _ => rfl) (by omega)
  have hcq := hd.count (enc := fun s => [.string s]) (fun _ => rfl) (by omega)
  have RA := Asd.mk ha
  have RB := Asd.mk hb
  have RD := Asd.mk hd
  have NA := Asd.mk hcn
  have NB := Asd.mk hcm
  have NQ := Asd.mk hcq
  have BS := Asd.mk hbs
  clear ha hb hd hcn hcm hcq hbs
  go_enter Try.func29, Try.ntmps29
  go_wp2_with fail
  refine (wrong_calls RA.out (by omega) BS.out).mono ?_
  rintro e w1 ⟨rfl, hb1⟩
  have B1 := Asd.mk hb1
  clear hb1
  go_wp2_with fail
  refine (wrong_calls (RB.out.below B1.out) (by omega) (Nat.le_trans BS.out B1.out.size)).mono ?_
  rintro e w2 ⟨rfl, hb2⟩
  have B2 := Asd.mk (B1.out.trans (hb2.mono B1.out.size))
  clear hb2
  go_wp2_with fail
  refine (Or2_calls _ _ _ _ (two_errs w2 (wrongP a) (wrongP b)).1 (two_errs w2 (wrongP a) (wrongP b)).2).mono ?_
  rintro e w3 ⟨rfl, hb3⟩
  have B3 := Asd.mk (B2.out.trans ((((Below.refl w2.heap.size w2).alloc (Nat.le_refl _) (.cells #[.int .i64 (wrongP a), .int .i64 (wrongP b)] 25)).trans (hb3.mono (by simp))).mono B2.out.size))
  clear hb3
  have herr : (if wrongP a = 0 then wrongP b else wrongP a) = errP a b := rfl
  rw [herr]
  clear herr
  by_cases he : errP a b = 0
  · have hsa : Sorted a ∧ Sorted b := by
      unfold errP at he
      split at he
      · exact ⟨wrongP_sorted (by assumption), wrongP_sorted he⟩
      · contradiction
    have SA := Asd.mk hsa.1
    have SB := Asd.mk hsa.2
    have HE := Asd.mk he
    rw [he]
    clear he hsa
    go_wp2_with fail
    go_loopw [31] (fun s31 wr => ∃ i : Nat, s31 = .int .i64 i ∧ i ≤ q ∧ Asd (Below w.heap.size w wr) ∧ Asd (OkD b (ds.take i))) (fun s31 _ => q - (intOf s31).toNat)
    case atStart => exact ⟨0, rfl, by omega, B3, ⟨OkD.nil _⟩⟩
    case round =>
      clear B3
      obtain ⟨i, rfl, hi, BW, OK⟩ := hrel
      by_cases hlt : i < q
      · obtain ⟨db, dO, rfl, hdb, hil, hcs⟩ := (RD.out.below BW.out).at_enc (enc := fun s => [.string s]) (fun _ => rfl) (by omega) hlt
        have hcap : i < f := Nat.lt_of_lt_of_le hlt RD.out.cap
        have c0 : wr.cell? ⟨db, dO + i, none⟩ = some (.string ds[i]) := by simpa using hcs 0 _ rfl
        have hsn := fun h1 h2 => OK.out.snoc hil h1 h2
        have hno : OkD b ds → there ds[i] b = false := fun h => h.no _ (List.getElem_mem hil)
        have hup : OkD b ds → ∀ j (hj : j + 1 = i), klt (ds[j]'(by omega)) ds[i] := fun h j hj => List.pairwise_iff_getElem.1 h.up j i (by omega) hil (by omega)
        have hpv : ∀ j (hj : j + 1 = i), ∀ W : World, Below w.heap.size w W → W.cell? ⟨db, dO + j, none⟩ = some (.string (ds[j]'(by omega))) := fun j hj W hW => by
          obtain ⟨db', dO', hA', _, hjl, hcs'⟩ := (RD.out.below hW).at_enc (enc := fun s => [.string s]) (fun _ => rfl) (by omega) (show j < q by omega)
          cases hA'
          simpa using hcs' 0 _ rfl
        generalize ds[i] = x at *
        have SN := Asd.mk hsn
        have NO := Asd.mk hno
        have UP := Asd.mk hup
        have PV := Asd.mk hpv
        clear hcs hsn hno hup hpv
        go_wp2_with fail
        refine (find_calls (RB.out.below BW.out) (by omega) SB.out x).mono ?_
        rintro e w5 ⟨rfl, hb5⟩
        have B5 := Asd.mk (BW.out.trans (hb5.mono BW.out.size))
        clear hb5 c0
        cases ht : there x b with
        | true =>
          have NK : Asd (¬ OkD b ds) := ⟨fun h => by have := NO.out h; rw [ht] at this; cases this⟩
          clear ht
          go_wp2_with fail
          go_ret2
          exact ⟨none, 0, 0, [], 4, rfl, B5.out, World.ownsRow_nil _ _ _ _, .inr ⟨HE.out, .inl ⟨NK.out, rfl, rfl⟩⟩⟩
        | false =>
          have HT := Asd.mk ht
          clear ht
          by_cases hi0 : 0 < i
          · obtain ⟨j, hj⟩ : ∃ j, j + 1 = i := ⟨i - 1, by omega⟩
            have d1 := PV.out j hj _ B5.out
            have hjl : j < ds.length := by omega
            obtain ⟨y, hy⟩ : ∃ y, ds[j] = y := ⟨_, rfl⟩
            rw [hy] at d1
            have hupj : OkD b ds → klt y x := fun h => hy ▸ UP.out h j hj
            have UJ := Asd.mk hupj
            have SJ : Asd (klt y x → OkD b (ds.take (i + 1))) := ⟨fun h => SN.out HT.out (fun j' hj' => (by have e : j' = j := (by omega); subst e; rw [hy]; exact h))⟩
            have l1 := less_eq y x
            have hjq : j < q := by omega
            have hjf : j < f := by omega
            have hi1 : (0 : Int) < (i : Int) := by omega
            have hij : (i : Int) - 1 = (j : Int) := by omega
            have hw1 : wrap64 ((i : Int) - 1) = (j : Int) := by rw [hij]; exact (wrapIn (by omega)).1
            have hw2 : IntKind.i64.wrap ((i : Int) - 1) = (j : Int) := by rw [hij]; exact (wrapIn (by omega)).2
            have HJ := Asd.mk hj
            clear hij hupj hy hj
            by_cases hl : klt y x
            · rw [decide_eq_true hl] at l1
              have OK2 := Asd.mk (SJ.out hl)
              clear hl
              go_upto_region 10 with fail
              clear hw1 hw2
              go_wp2_with fail
              go_roundw
              case measure => simp [intOf]; omega
              case rel => exact ⟨i + 1, by go_num, by omega, B5, OK2⟩
            · rw [decide_eq_false hl] at l1
              have NK : Asd (¬ OkD b ds) := ⟨fun h => hl (UJ.out h)⟩
              clear hl
              go_wp2_with fail
              go_ret2
              exact ⟨none, 0, 0, [], 4, rfl, B5.out, World.ownsRow_nil _ _ _ _, .inr ⟨HE.out, .inl ⟨NK.out, rfl, rfl⟩⟩⟩
          · have hi1 : ¬ (0 : Int) < (i : Int) := by omega
            have hi2 : decide ((0 : Int) < (i : Int)) = false := decide_eq_false hi1
            have hi3 : decide (0 < i) = false := decide_eq_false hi0
            have OK2 := Asd.mk (SN.out HT.out (fun j hj => by omega))
            go_wp2_with fail
            go_roundw
            case measure => simp [intOf]; omega
            case rel => exact ⟨i + 1, by go_num, by omega, B5, OK2⟩
      · have hie : i = q := by omega
        have OKD : Asd (OkD b ds) := ⟨by
          have h := OK.out
          rwa [List.take_of_length_le (by have := NQ.out; omega)] at h⟩
        clear OK hie
        go_wp2_with fail
        refine (Clone_row wr B m d (rowCells b) (RB.out.below BW.out) (row_one _) (by omega)).mono ?_
        rintro e w5 ⟨P5, c5, rfl, _, hO5, hb5⟩
        have B5 := Asd.mk (BW.out.trans (hb5.mono BW.out.size))
        have O5 := Asd.mk (own_le' hO5 BW.out.size)
        clear hO5 hb5 BW
        go_wp2_with fail
        go_loopw [13, 61] (fun s13 s61 wr => ∃ (k no co : Nat) (Po : Option Addr), s13 = .slice Po no co ∧ s61 = .int .i64 k ∧ k ≤ n ∧ no ≤ m + k ∧ Asd (Below w.heap.size w wr) ∧ Asd (wr.ownsRow w.heap.size 29 3 (.slice Po no co) no (rowCells (b ++ leftP (a.take k) b ds)))) (fun _ s61 _ => n - (intOf s61).toNat)
        case atStart => exact ⟨0, m, c5, P5, rfl, rfl, by omega, by omega, B5, ⟨by simpa [leftP] using O5.out⟩⟩
        case round =>
          clear B5 O5
          obtain ⟨k, no, co, Po, rfl, rfl, hk, hno, BW, OW⟩ := hrel
          by_cases hlt : k < n
          · have hil : k < a.length := by have := NA.out; omega
            obtain ⟨bb, boff, rfl, _, _, c0, c1, c2⟩ := (RA.out.below BW.out).row hlt
            generalize hy : a[k] = y at c0 c1 c2
            have hsn : leftP (a.take (k + 1)) b ds = leftP (a.take k) b ds ++ (if there y.key b = false ∧ y.key ∉ ds then [y] else []) := by
              rw [List.take_succ_eq_append_getElem hil, leftP_snoc, hy]
            have SN := Asd.mk hsn
            have hal : Below wr.heap.size wr (wr.alloc (.cells #[.string y.key, .int .i64 y.stamp, .string y.val] 29)) := (Below.refl _ _).alloc (Nat.le_refl _) _
            have B4 := Asd.mk (BW.out.trans (hal.mono BW.out.size))
            have O4 := Asd.mk (OW.out.alloc (.cells #[.string y.key, .int .i64 y.stamp, .string y.val] 29))
            have X4 : Asd (Rd base 29 (wr.alloc (.cells #[.string y.key, .int .i64 y.stamp, .string y.val] 29)) 3 (some ⟨wr.heap.size, 0, none⟩) 1 1 (rowCells [y])) := ⟨Rd.new_ rfl rfl⟩
            have hl4 : wr.heap.size < (wr.alloc (.cells #[.string y.key, .int .i64 y.stamp, .string y.val] 29)).heap.size := by simp
            clear hy hsn hal
            go_wp2_with fail
            generalize (wr.alloc (.cells #[.string y.key, .int .i64 y.stamp, .string y.val] 29)) = w4 at B4 O4 X4 hl4 ⊢
            generalize wr.heap.size = rb at X4 hl4 ⊢
            refine (find_calls (RB.out.below B4.out) (by omega) SB.out y.key).mono ?_
            rintro e w6 ⟨rfl, hb6⟩
            have B6 := Asd.mk (B4.out.trans (hb6.mono B4.out.size))
            have O6 := Asd.mk (O4.out.kept (gb_below hb6 none) (by cases (Value.slice Po no co).ownBlock <;> simp))
            have X6 := Asd.mk (X4.out.below hb6)
            have hl6 : rb < w6.heap.size := Nat.lt_of_lt_of_le hl4 hb6.size
            clear hb6 c0 c1 c2 hl4 BW OW
            obtain ⟨d0, d1, d2⟩ := X6.out.row1
            have SIZ := Asd.mk B6.out.size
            have BSR := Asd.mk (BinarySearch_calls (RD.out.below B6.out) (by omega) OKD.out.up y.key)
            generalize there y.key b = ov at SN ⊢
            obtain ⟨gn, hgn⟩ : ∃ gn, decide (y.key ∈ ds) = gn := ⟨_, rfl⟩
            have GN := Asd.mk hgn
            go_wp2_with fail
            refine BSR.out.mono ?_
            rintro e w7 ⟨ii, rfl, hw7⟩
            subst hw7
            rw [hgn]
            clear hgn BSR
            cases ov
            · cases gn
              · as_aux_lemma =>
                have hs2 : leftP (a.take (k + 1)) b ds = leftP (a.take k) b ds ++ [y] := by rw [SN.out, if_pos ⟨rfl, of_decide_eq_false GN.out⟩]
                have S2 := Asd.mk hs2
                clear hs2
                go_wp2_with (at_builtin; go_loud (refine wpList_append_mine (base := base) (own := w.heap.size) (n := no) (m := 1) (v := .slice Po no co) (xs := rowCells (b ++ leftP (a.take k) b ds)) (ys := rowCells [y]) rfl (.tmp 85) (.tmp 87) 22 rfl elt_row rfl rfl (O6.out.alloc _) (Rd.new_ rfl rfl) (row_one _) (by unfold maxLen; omega) (by omega) (Nat.le_trans SIZ.out (by simp)) ?_; intro v8 w8 O8' G8'; obtain ⟨P8, c8, rfl, _⟩ := Rd.of_own (base := base) O8'; have O8 : Asd (w8.ownsRow w.heap.size 29 3 (.slice P8 (no + 1) c8) (no + 1) (rowCells (b ++ leftP (a.take (k + 1)) b ds))) := ⟨by have h := O8'; rw [S2.out, ← List.append_assoc]; unfold rowCells at h ⊢; rw [List.flatMap_append]; exact h⟩; have B8 := Asd.mk ((B6.out.alloc B6.out.size (.cells #[.string y.key, .int .i64 y.stamp, .string y.val] 29)).grown G8' (Nat.le_trans B6.out.size (by simp)) (fun j hj => (O6.out.lt j hj).1)); clear O8' G8'))
                go_roundw
                case measure => simp [intOf]; omega
                case rel => exact ⟨k + 1, no + 1, c8, P8, rfl, by go_num, by omega, by omega, B8, O8⟩
              · as_aux_lemma =>
                have O8 : Asd (w7.ownsRow w.heap.size 29 3 (.slice Po no co) no (rowCells (b ++ leftP (a.take (k + 1)) b ds))) := ⟨by rw [SN.out, if_neg (fun h => h.2 (of_decide_eq_true GN.out)), List.append_nil]; exact O6.out⟩
                go_wp2_with fail
                go_roundw
                case measure => simp [intOf]; omega
                case rel => exact ⟨k + 1, no, co, Po, rfl, by go_num, by omega, by omega, B6, O8⟩
            · as_aux_lemma =>
              have O8 : Asd (w7.ownsRow w.heap.size 29 3 (.slice Po no co) no (rowCells (b ++ leftP (a.take (k + 1)) b ds))) := ⟨by rw [SN.out, if_neg (fun h => by cases h.1), List.append_nil]; exact O6.out⟩
              go_wp2_with fail
              go_roundw
              case measure => simp [intOf]; omega
              case rel => exact ⟨k + 1, no, co, Po, rfl, by go_num, by omega, by omega, B6, O8⟩
          · have hke : k = n := by omega
            have O1 : Asd (wr.ownsRow w.heap.size 29 3 (.slice Po no co) no (rowCells (b ++ leftP a b ds))) := ⟨by
              have h := OW.out
              rwa [List.take_of_length_le (by have := NA.out; omega)] at h⟩
            have SR := Asd.mk (sort_rows wr w.heap.size Po no co _ O1.out (by omega))
            have GLT : Asd (∀ j, (Value.slice Po no co).ownBlock = some j → w.heap.size ≤ j) := ⟨fun j hj => (O1.out.lt j hj).1⟩
            clear OW hke
            go_wp2_with fail
            refine SR.out.mono ?_
            rintro e w9 ⟨rfl, E, hperm, hsrt, hO9, hG9⟩
            have B9 := Asd.mk (BW.out.grown hG9 BW.out.size GLT.out)
            have O9 := Asd.mk hO9
            have PT : Asd (Patched a b ds E) := ⟨⟨hperm, hsrt⟩⟩
            clear hperm hsrt hO9 hG9
            go_wp2_with fail
            go_ret2
            exact ⟨Po, no, co, E, 0, rfl, B9.out, O9.out, .inr ⟨HE.out, .inr ⟨OKD.out, rfl, PT.out⟩⟩⟩
  · have HE := Asd.mk he
    have he1 : (errP a b == 0) = false := by simpa using he
    have he2 : (errP a b != 0) = true := by simpa using he
    clear he
    generalize hE : errP a b = E at *
    have HEE := Asd.mk hE
    clear hE
    go_wp2_with fail
    go_ret2
    exact ⟨none, 0, 0, [], E, rfl, B3.out, World.ownsRow_nil _ _ _ _, .inl ⟨by rw [HEE.out]; exact HE.out, HEE.out.symm, rfl⟩⟩
end Go.Proofs.Ytgiajfgeplekbaa

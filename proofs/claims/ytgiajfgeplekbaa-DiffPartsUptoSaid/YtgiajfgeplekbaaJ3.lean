/- The document's Digest. -/
import Derived.Test.YtgiajfgeplekbaaH3
import Derived.Test.YtgiajfgeplekbaaH2
import Derived.Lib.AppendStr
set_option linter.unusedVariables false
set_option linter.unusedSimpArgs false
namespace Go.Proofs.Ytgiajfgeplekbaa
open Go.RowKit

theorem u8_info : ∃ i, Try.prog.info? 5 = some i ∧ i.zero = some (.int .u8 0) ∧ i.size = 1 ∧ i.bytes = 1 := by
  have h : (Try.prog.info? 5).map (fun i => (i.zero, i.size, i.bytes)) = some (some (Value.int .u8 0), 1, 1) := by kernel_rfl
  cases hi : Try.prog.info? 5 with
  | none => rw [hi] at h; cases h
  | some i =>
    rw [hi] at h
    simp only [Option.map_some, Option.some.injEq, Prod.mk.injEq] at h
    exact ⟨i, rfl, h.1, h.2.1, h.2.2⟩
theorem elt_u8 : Elt Try.prog 72 5 1 1 := Elt.mk' Try.underlying72 (z := .int .u8 0) (by kernel_rfl) rfl (by omega)
theorem u8_one (l : List Int) : ∀ u ∈ l.flatMap vEnc, u.oneCell' = true := by
  intro u hu
  obtain ⟨r, _, hr⟩ := List.mem_flatMap.1 hu
  simp only [vEnc, List.mem_cons, List.not_mem_nil, or_false] at hr
  subst hr
  rfl
theorem strCells_eq (s : ByteArray) : Lib.strCells s = (byteL s).flatMap vEnc := by
  unfold Lib.strCells byteL
  induction s.data.toList with
  | nil => rfl
  | cons b l ih => simp only [List.map_cons, List.flatMap_cons, ih]; rfl
theorem own_byte {w : World} {own n c : Nat} {A : Option Addr} {X L : List Int} {i : Nat} {v : Int} (h : w.ownsRow own 5 1 (.slice A n c) n ((X ++ L.take i).flatMap vEnc ++ [.int .u8 v])) (hv : L[i]? = some v) : w.ownsRow own 5 1 (.slice A n c) n ((X ++ L.take (i + 1)).flatMap vEnc) := by
  obtain ⟨hi, hv⟩ := List.getElem?_eq_some_iff.1 hv
  rw [List.take_succ_eq_append_getElem hi, hv, ← List.append_assoc, List.flatMap_append]
  exact h
theorem own_str {w : World} {own n c : Nat} {A : Option Addr} {X : List Int} {s : ByteArray} (h : w.ownsRow own 5 1 (.slice A n c) n (X.flatMap vEnc ++ Lib.strCells s)) : w.ownsRow own 5 1 (.slice A n c) n ((X ++ byteL s).flatMap vEnc) := by
  rw [List.flatMap_append, ← strCells_eq]
  exact h
theorem own_one {w : World} {own n c : Nat} {A : Option Addr} {X : List Int} {v : Int} (h : w.ownsRow own 5 1 (.slice A n c) n (X.flatMap vEnc ++ [.int .u8 v])) : w.ownsRow own 5 1 (.slice A n c) n ((X ++ [v]).flatMap vEnc) := by
  rw [List.flatMap_append]
  exact h
theorem own_pick {w : World} {own n c : Nat} {A : Option Addr} {xs : List Value} (h : w.ownsRow own 5 1 (.slice A n c) n xs) : w.ownsRow own 5 1 (.slice A n c) n xs := h
theorem digR_app (x : Int) (r : Rw) : sumD x (byteL r.key ++ [0] ++ stampL r.stamp ++ byteL r.val ++ [1]) = digR x r := by
  unfold digR sumD
  rw [List.foldl_append, List.foldl_append, List.foldl_append, List.foldl_append]
  rfl

set_option maxHeartbeats 16000000 in
set_option maxRecDepth 100000 in
theorem RefDigest_calls {base : Nat} {w : World} {A : Option Addr} {n c : Nat} {l : List Rw} (hr : Rd base 29 w 3 A n c (rowCells l)) (hbig : n ≤ 1000000) (hs : ∀ r ∈ l, r.key.size ≤ 1048576 ∧ r.val.size ≤ 1048576) :
    Calls Try.prog 24 #[.slice A n c] w fun e w' => e = .returned (.int .u64 (digP l)) ∧ Below w.heap.size w w' := by
  have hn := hr.count (enc := Rw.enc) (fun _ => rfl) (by omega)
  obtain ⟨i0, hi0, hz0, hs0, hb0⟩ := u8_info
  have R := Asd.mk hr
  have N := Asd.mk hn
  have SZ := Asd.mk hs
  have I0 := Asd.mk hi0
  have Z0 := Asd.mk hz0
  have S0 := Asd.mk hs0
  have Y0 := Asd.mk hb0
  clear hr hn hs hi0 hz0 hs0 hb0
  go_enter Try.func24, Try.ntmps24
  go_wp2_with fail
  go_loopw [3, 4] (fun s3 s4 wr => ∃ (x : Int) (k : Nat), s3 = .int .u64 x ∧ s4 = .int .i64 k ∧ k ≤ n ∧ Asd (Below w.heap.size w wr) ∧ Asd (x = digP (l.take k))) (fun _ s4 _ => n - (intOf s4).toNat)
  case atStart => exact ⟨_, 0, rfl, rfl, Nat.zero_le _, ⟨Below.refl _ _⟩, ⟨rfl⟩⟩
  case round =>
    obtain ⟨x, k, rfl, rfl, hk, BW, DX⟩ := hrel
    by_cases hlt : k < n
    · have hil : k < l.length := by have := N.out; omega
      obtain ⟨b, off, rfl, _, _, c0, _, _⟩ := (R.out.below BW.out).row hlt
      have hcap : k < c := Nat.lt_of_lt_of_le hlt R.out.cap
      have hsz := SZ.out l[k] (List.getElem_mem hil)
      have htk : l.take (k + 1) = l.take k ++ [l[k]] := List.take_succ_eq_append_getElem hil
      have CC : Asd (∀ W, Below w.heap.size w W → W.cell? ⟨b, off + k * 3, none⟩ = some (.string l[k].key) ∧ W.cell? ⟨b, off + k * 3 + 1, none⟩ = some (.int .i64 l[k].stamp) ∧ W.cell? ⟨b, off + k * 3 + 2, none⟩ = some (.string l[k].val)) := ⟨fun W hW => by
        obtain ⟨b', off', hA, _, _, c0, c1, c2⟩ := (R.out.below hW).row hlt
        cases hA
        exact ⟨c0, c1, c2⟩⟩
      generalize l[k] = y at c0 hsz htk CC
      have TK := Asd.mk htk
      have hks := hsz.1
      have hvs := hsz.2
      clear htk hsz
      go_wp2_with (first
        | (at_builtin; refine Lib.wpList_append_own_string _ rfl (.tmp 14) (.tmp 19) 72 9 rfl w.heap.size 5 i0 Try.underlying72 Try.underlying9 I0.out Z0.out S0.out Y0.out (.slice none 0 0) 0 [] rfl (World.ownsRow_nil _ _ _ _) y.key rfl (by unfold maxLen; omega) (by omega) BW.out.size ?_; intro v1 w1 O1' G1' _; rw [Nat.zero_add] at O1'; obtain ⟨P1, c1, rfl, _⟩ := Rd.of_own (base := base) O1'; have O1 := Asd.mk (own_str (X := []) (by simpa using O1')); have B1 := Asd.mk (BW.out.grown G1' BW.out.size (fun j hj => by cases hj)); clear O1' G1')
        | (at_builtin; refine wpList_append_mine (base := base) (own := w.heap.size) (n := y.key.size) (m := 1) (v := .slice P1 (y.key.size) c1) (xs := ([] ++ byteL y.key).flatMap vEnc) rfl (.tmp 21) (.tmp 22) 72 rfl elt_u8 rfl rfl (O1.out.alloc _) (Rd.new2 (by simp) rfl rfl) (by intro u hu; simp at hu; subst hu; rfl) (by unfold maxLen; omega) (by omega) (Nat.le_trans B1.out.size (by simp)) ?_; intro v2 w2 O2' G2'; obtain ⟨P2, c2, rfl, _⟩ := Rd.of_own (base := base) O2'; have O2 := Asd.mk (own_one O2'); have B2 := Asd.mk ((B1.out.alloc B1.out.size _).grown G2' (Nat.le_trans B1.out.size (by simp)) (fun j hj => (O1.out.lt j hj).1)); clear O2' G2'))
      have O2' : Asd (w2.ownsRow w.heap.size 5 1 (.slice P2 (y.key.size + 1) c2) (y.key.size + 1) ((byteL y.key ++ [0] ++ (stampL y.stamp).take 0).flatMap vEnc)) := ⟨by simpa using O2.out⟩
      clear O1 B1 O2 c0
      go_loopw [5, 6] (fun s5 s6 wr => ∃ (i nb cb : Nat) (Pb : Option Addr), s5 = .slice Pb nb cb ∧ s6 = .int .i64 (7 - (i : Int)) ∧ i ≤ 8 ∧ nb = y.key.size + 1 + i ∧ Asd (Below w.heap.size w wr) ∧ Asd (wr.ownsRow w.heap.size 5 1 (.slice Pb nb cb) nb ((byteL y.key ++ [0] ++ (stampL y.stamp).take i).flatMap vEnc))) (fun _ s6 _ => (intOf s6 + 1).toNat)
      case atStart => exact ⟨0, _, c2, P2, rfl, by go_num, by omega, by omega, B2, O2'⟩
      case round =>
        clear O2' B2
        obtain ⟨i, nb, cb, Pb, rfl, rfl, hi, hnb, BV, OV⟩ := hrel
        have c1 := (CC.out wr BV.out).2.1
        have c2 := (CC.out wr BV.out).2.2
        have hi8 : i = 0 ∨ i = 1 ∨ i = 2 ∨ i = 3 ∨ i = 4 ∨ i = 5 ∨ i = 6 ∨ i = 7 ∨ i = 8 := by omega
        have hnb2 : nb ≤ 1048585 := by omega
        have NB := Asd.mk hnb
        clear hnb
        rcases hi8 with rfl | rfl | rfl | rfl | rfl | rfl | rfl | rfl | rfl
        · clear c2
          go_wp2_with (at_builtin; refine wpList_append_mine (base := base) (own := w.heap.size) (n := nb) (m := 1) (v := .slice Pb (nb) cb) (xs := (byteL y.key ++ [0] ++ (stampL y.stamp).take 0).flatMap vEnc) rfl (.tmp 28) (.tmp 39) 72 rfl elt_u8 rfl rfl (OV.out.alloc _) (Rd.new2 (by simp) rfl rfl) (by intro u hu; simp at hu; subst hu; rfl) (by unfold maxLen; omega) (by omega) (Nat.le_trans BV.out.size (by simp)) ?_; intro v3 w3 O3' G3'; obtain ⟨P3, c3, rfl, _⟩ := Rd.of_own (base := base) O3'; have O3 := Asd.mk (own_pick O3'); have B3 := Asd.mk ((BV.out.alloc BV.out.size _).grown G3' (Nat.le_trans BV.out.size (by simp)) (fun j hj => (OV.out.lt j hj).1)); clear O3' G3')
          go_roundw
          case measure => simp [intOf]
          case rel => exact ⟨1, nb + 1, c3, P3, rfl, by go_num, by omega, by have := NB.out; omega, B3, ⟨own_byte (L := stampL y.stamp) (i := 0) O3.out rfl⟩⟩
        · clear c2
          go_wp2_with (at_builtin; refine wpList_append_mine (base := base) (own := w.heap.size) (n := nb) (m := 1) (v := .slice Pb (nb) cb) (xs := (byteL y.key ++ [0] ++ (stampL y.stamp).take 1).flatMap vEnc) rfl (.tmp 28) (.tmp 39) 72 rfl elt_u8 rfl rfl (OV.out.alloc _) (Rd.new2 (by simp) rfl rfl) (by intro u hu; simp at hu; subst hu; rfl) (by unfold maxLen; omega) (by omega) (Nat.le_trans BV.out.size (by simp)) ?_; intro v3 w3 O3' G3'; obtain ⟨P3, c3, rfl, _⟩ := Rd.of_own (base := base) O3'; have O3 := Asd.mk (own_pick O3'); have B3 := Asd.mk ((BV.out.alloc BV.out.size _).grown G3' (Nat.le_trans BV.out.size (by simp)) (fun j hj => (OV.out.lt j hj).1)); clear O3' G3')
          go_roundw
          case measure => simp [intOf]
          case rel => exact ⟨2, nb + 1, c3, P3, rfl, by go_num, by omega, by have := NB.out; omega, B3, ⟨own_byte (L := stampL y.stamp) (i := 1) O3.out rfl⟩⟩
        · clear c2
          go_wp2_with (at_builtin; refine wpList_append_mine (base := base) (own := w.heap.size) (n := nb) (m := 1) (v := .slice Pb (nb) cb) (xs := (byteL y.key ++ [0] ++ (stampL y.stamp).take 2).flatMap vEnc) rfl (.tmp 28) (.tmp 39) 72 rfl elt_u8 rfl rfl (OV.out.alloc _) (Rd.new2 (by simp) rfl rfl) (by intro u hu; simp at hu; subst hu; rfl) (by unfold maxLen; omega) (by omega) (Nat.le_trans BV.out.size (by simp)) ?_; intro v3 w3 O3' G3'; obtain ⟨P3, c3, rfl, _⟩ := Rd.of_own (base := base) O3'; have O3 := Asd.mk (own_pick O3'); have B3 := Asd.mk ((BV.out.alloc BV.out.size _).grown G3' (Nat.le_trans BV.out.size (by simp)) (fun j hj => (OV.out.lt j hj).1)); clear O3' G3')
          go_roundw
          case measure => simp [intOf]
          case rel => exact ⟨3, nb + 1, c3, P3, rfl, by go_num, by omega, by have := NB.out; omega, B3, ⟨own_byte (L := stampL y.stamp) (i := 2) O3.out rfl⟩⟩
        · clear c2
          go_wp2_with (at_builtin; refine wpList_append_mine (base := base) (own := w.heap.size) (n := nb) (m := 1) (v := .slice Pb (nb) cb) (xs := (byteL y.key ++ [0] ++ (stampL y.stamp).take 3).flatMap vEnc) rfl (.tmp 28) (.tmp 39) 72 rfl elt_u8 rfl rfl (OV.out.alloc _) (Rd.new2 (by simp) rfl rfl) (by intro u hu; simp at hu; subst hu; rfl) (by unfold maxLen; omega) (by omega) (Nat.le_trans BV.out.size (by simp)) ?_; intro v3 w3 O3' G3'; obtain ⟨P3, c3, rfl, _⟩ := Rd.of_own (base := base) O3'; have O3 := Asd.mk (own_pick O3'); have B3 := Asd.mk ((BV.out.alloc BV.out.size _).grown G3' (Nat.le_trans BV.out.size (by simp)) (fun j hj => (OV.out.lt j hj).1)); clear O3' G3')
          go_roundw
          case measure => simp [intOf]
          case rel => exact ⟨4, nb + 1, c3, P3, rfl, by go_num, by omega, by have := NB.out; omega, B3, ⟨own_byte (L := stampL y.stamp) (i := 3) O3.out rfl⟩⟩
        · clear c2
          go_wp2_with (at_builtin; refine wpList_append_mine (base := base) (own := w.heap.size) (n := nb) (m := 1) (v := .slice Pb (nb) cb) (xs := (byteL y.key ++ [0] ++ (stampL y.stamp).take 4).flatMap vEnc) rfl (.tmp 28) (.tmp 39) 72 rfl elt_u8 rfl rfl (OV.out.alloc _) (Rd.new2 (by simp) rfl rfl) (by intro u hu; simp at hu; subst hu; rfl) (by unfold maxLen; omega) (by omega) (Nat.le_trans BV.out.size (by simp)) ?_; intro v3 w3 O3' G3'; obtain ⟨P3, c3, rfl, _⟩ := Rd.of_own (base := base) O3'; have O3 := Asd.mk (own_pick O3'); have B3 := Asd.mk ((BV.out.alloc BV.out.size _).grown G3' (Nat.le_trans BV.out.size (by simp)) (fun j hj => (OV.out.lt j hj).1)); clear O3' G3')
          go_roundw
          case measure => simp [intOf]
          case rel => exact ⟨5, nb + 1, c3, P3, rfl, by go_num, by omega, by have := NB.out; omega, B3, ⟨own_byte (L := stampL y.stamp) (i := 4) O3.out rfl⟩⟩
        · clear c2
          go_wp2_with (at_builtin; refine wpList_append_mine (base := base) (own := w.heap.size) (n := nb) (m := 1) (v := .slice Pb (nb) cb) (xs := (byteL y.key ++ [0] ++ (stampL y.stamp).take 5).flatMap vEnc) rfl (.tmp 28) (.tmp 39) 72 rfl elt_u8 rfl rfl (OV.out.alloc _) (Rd.new2 (by simp) rfl rfl) (by intro u hu; simp at hu; subst hu; rfl) (by unfold maxLen; omega) (by omega) (Nat.le_trans BV.out.size (by simp)) ?_; intro v3 w3 O3' G3'; obtain ⟨P3, c3, rfl, _⟩ := Rd.of_own (base := base) O3'; have O3 := Asd.mk (own_pick O3'); have B3 := Asd.mk ((BV.out.alloc BV.out.size _).grown G3' (Nat.le_trans BV.out.size (by simp)) (fun j hj => (OV.out.lt j hj).1)); clear O3' G3')
          go_roundw
          case measure => simp [intOf]
          case rel => exact ⟨6, nb + 1, c3, P3, rfl, by go_num, by omega, by have := NB.out; omega, B3, ⟨own_byte (L := stampL y.stamp) (i := 5) O3.out rfl⟩⟩
        · clear c2
          go_wp2_with (at_builtin; refine wpList_append_mine (base := base) (own := w.heap.size) (n := nb) (m := 1) (v := .slice Pb (nb) cb) (xs := (byteL y.key ++ [0] ++ (stampL y.stamp).take 6).flatMap vEnc) rfl (.tmp 28) (.tmp 39) 72 rfl elt_u8 rfl rfl (OV.out.alloc _) (Rd.new2 (by simp) rfl rfl) (by intro u hu; simp at hu; subst hu; rfl) (by unfold maxLen; omega) (by omega) (Nat.le_trans BV.out.size (by simp)) ?_; intro v3 w3 O3' G3'; obtain ⟨P3, c3, rfl, _⟩ := Rd.of_own (base := base) O3'; have O3 := Asd.mk (own_pick O3'); have B3 := Asd.mk ((BV.out.alloc BV.out.size _).grown G3' (Nat.le_trans BV.out.size (by simp)) (fun j hj => (OV.out.lt j hj).1)); clear O3' G3')
          go_roundw
          case measure => simp [intOf]
          case rel => exact ⟨7, nb + 1, c3, P3, rfl, by go_num, by omega, by have := NB.out; omega, B3, ⟨own_byte (L := stampL y.stamp) (i := 6) O3.out rfl⟩⟩
        · clear c2
          go_wp2_with (at_builtin; refine wpList_append_mine (base := base) (own := w.heap.size) (n := nb) (m := 1) (v := .slice Pb (nb) cb) (xs := (byteL y.key ++ [0] ++ (stampL y.stamp).take 7).flatMap vEnc) rfl (.tmp 28) (.tmp 39) 72 rfl elt_u8 rfl rfl (OV.out.alloc _) (Rd.new2 (by simp) rfl rfl) (by intro u hu; simp at hu; subst hu; rfl) (by unfold maxLen; omega) (by omega) (Nat.le_trans BV.out.size (by simp)) ?_; intro v3 w3 O3' G3'; obtain ⟨P3, c3, rfl, _⟩ := Rd.of_own (base := base) O3'; have O3 := Asd.mk (own_pick O3'); have B3 := Asd.mk ((BV.out.alloc BV.out.size _).grown G3' (Nat.le_trans BV.out.size (by simp)) (fun j hj => (OV.out.lt j hj).1)); clear O3' G3')
          go_roundw
          case measure => simp [intOf]
          case rel => exact ⟨8, nb + 1, c3, P3, rfl, by go_num, by omega, by have := NB.out; omega, B3, ⟨own_byte (L := stampL y.stamp) (i := 7) O3.out rfl⟩⟩
        · have OV8 : Asd (wr.ownsRow w.heap.size 5 1 (.slice Pb nb cb) nb ((byteL y.key ++ [0] ++ stampL y.stamp).flatMap vEnc)) := ⟨OV.out⟩
          clear OV c1 hi NB
          go_wp2_with (first
            | (at_builtin; refine Lib.wpList_append_own_string _ rfl (.tmp 41) (.tmp 46) 72 9 rfl w.heap.size 5 i0 Try.underlying72 Try.underlying9 I0.out Z0.out S0.out Y0.out (.slice Pb nb cb) (nb) ((byteL y.key ++ [0] ++ stampL y.stamp).flatMap vEnc) rfl OV8.out y.val rfl (by unfold maxLen; omega) (by omega) BV.out.size ?_; intro v4 w4 O4' G4' _; obtain ⟨P4, c4, rfl, _⟩ := Rd.of_own (base := base) O4'; have O4 := Asd.mk (own_str (X := byteL y.key ++ [0] ++ stampL y.stamp) O4'); have B4 := Asd.mk (BV.out.grown G4' BV.out.size (fun j hj => (OV8.out.lt j hj).1)); clear O4' G4')
            | (at_builtin; refine wpList_append_mine (base := base) (own := w.heap.size) (n := nb + y.val.size) (m := 1) (v := .slice P4 (nb + y.val.size) c4) (xs := (byteL y.key ++ [0] ++ stampL y.stamp ++ byteL y.val).flatMap vEnc) rfl (.tmp 48) (.tmp 49) 72 rfl elt_u8 rfl rfl (O4.out.alloc _) (Rd.new2 (by simp) rfl rfl) (by intro u hu; simp at hu; subst hu; rfl) (by unfold maxLen; omega) (by omega) (Nat.le_trans B4.out.size (by simp)) ?_; intro v5 w5 O5' G5'; obtain ⟨P5, c5, rfl, _⟩ := Rd.of_own (base := base) O5'; have O5 := Asd.mk (own_one O5'); have B5 := Asd.mk ((B4.out.alloc B4.out.size _).grown G5' (Nat.le_trans B4.out.size (by simp)) (fun j hj => (O4.out.lt j hj).1)); clear O5' G5'))
          have RB : Asd (Rd base 5 w5 1 P5 (nb + y.val.size + 1) c5 ((byteL y.key ++ [0] ++ stampL y.stamp ++ byteL y.val ++ [1]).flatMap vEnc)) := ⟨by
            obtain ⟨_, _, e, hr⟩ := Rd.of_own (base := base) O5.out
            injection e with e1 _ e2
            subst e1 e2
            exact hr⟩
          have HX : Asd (sumD x (byteL y.key ++ [0] ++ stampL y.stamp ++ byteL y.val ++ [1]) = digR x y) := ⟨digR_app x y⟩
          have hnl := RB.out.count (enc := vEnc) (fun _ => rfl) (by omega)
          generalize byteL y.key ++ [0] ++ stampL y.stamp ++ byteL y.val ++ [1] = bs at RB HX hnl
          have hnt : nb + y.val.size + 1 ≤ 3000000 := by omega
          generalize nb + y.val.size + 1 = nt at *
          have NL := Asd.mk hnl
          clear O4 O5 B4 OV8 hnl hnb2 c2
          go_loopw [3, 7] (fun s3 s7 wr => ∃ (z : Int) (q : Nat), s3 = .int .u64 z ∧ s7 = .int .i64 q ∧ q ≤ nt ∧ Asd (wr = w5) ∧ Asd (z = sumD x (bs.take q))) (fun _ s7 _ => nt - (intOf s7).toNat)
          case atStart => exact ⟨x, 0, rfl, rfl, Nat.zero_le _, ⟨rfl⟩, ⟨rfl⟩⟩
          case round =>
            obtain ⟨z, q, rfl, rfl, hq, HW, ZX⟩ := hrel
            obtain rfl := HW.out
            by_cases hlt2 : q < nt
            · obtain ⟨bb, bo, rfl, _, hkl, hcs⟩ := RB.out.at_enc (enc := vEnc) (fun _ => rfl) (by omega) hlt2
              have hcap2 : q < c5 := Nat.lt_of_lt_of_le hlt2 RB.out.cap
              have e0 : wr.cell? ⟨bb, bo + q, none⟩ = some (.int .u8 bs[q]) := by simpa using hcs 0 _ rfl
              have hstep : stepD z bs[q] = sumD x (bs.take (q + 1)) := by rw [List.take_succ_eq_append_getElem hkl, sumD_snoc, ← ZX.out]
              generalize bs[q] = v at e0 hstep
              have ST := Asd.mk hstep
              clear hstep hcs
              go_wp2_with fail
              go_roundw
              case measure => simp [intOf]; omega
              case rel => exact ⟨_, q + 1, rfl, by go_num, by omega, ⟨by simp⟩, ⟨ST.out⟩⟩
            · have R3 : Asd (z = digR x y) := ⟨by
                have h := ZX.out
                rwa [List.take_of_length_le (by have := NL.out; omega), HX.out] at h⟩
              clear ZX HX
              go_wp2_with fail
              go_roundw
              case measure => simp [intOf]; omega
              case rel => exact ⟨_, k + 1, rfl, by go_num, by omega, B5, ⟨by rw [TK.out, digP_snoc, ← DX.out]; exact R3.out⟩⟩
    · have R2 : Asd (x = digP l) := ⟨by
        have h := DX.out
        rwa [List.take_of_length_le (by have := N.out; omega)] at h⟩
      go_wp2_with fail
      go_ret
      exact ⟨by rw [← R2.out]; rfl, BW.out⟩
end Go.Proofs.Ytgiajfgeplekbaa

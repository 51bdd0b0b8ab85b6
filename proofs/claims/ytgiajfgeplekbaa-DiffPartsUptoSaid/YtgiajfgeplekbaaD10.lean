/- diff.Parts. -/
import Derived.Test.YtgiajfgeplekbaaD9
set_option linter.unusedVariables false
set_option linter.unusedSimpArgs false
namespace Go.Proofs.Ytgiajfgeplekbaa
open Go.RowKit

theorem elt_span : Elt Try.prog 33 39 2 32 := Elt.mk' Try.underlying33 (z := .agg #[.string ⟨#[]⟩, .string ⟨#[]⟩]) (by kernel_rfl) rfl (by omega)
def sCells (l : List SpanR) : List Value := l.flatMap SpanR.enc
theorem span_one (l : List SpanR) : ∀ u ∈ sCells l, u.oneCell' = true := by
  intro u hu
  unfold sCells at hu
  obtain ⟨r, _, hr⟩ := List.mem_flatMap.1 hu
  simp only [SpanR.enc, List.mem_cons, List.not_mem_nil, or_false] at hr
  rcases hr with rfl | rfl <;> rfl
def keyAt (rows : List Rw) (i : Nat) : ByteArray := if i = 0 then ⟨#[]⟩ else (rows.getD i default).key
def partAt (rows : List Rw) (mn j : Nat) : SpanR := ⟨keyAt rows (j * mn), keyAt rows ((j + 1) * mn)⟩
def outP (rows : List Rw) (mn j : Nat) : List SpanR := (List.range j).map (partAt rows mn)
theorem outP_snoc (rows : List Rw) (mn j : Nat) : outP rows mn (j + 1) = outP rows mn j ++ [partAt rows mn j] := by simp [outP, List.range_succ]
def partsN (rows : List Rw) (mn : Nat) : Nat := (rows.length - 1) / mn
def partsL (rows : List Rw) (mn : Nat) : List SpanR := outP rows mn (partsN rows mn) ++ [⟨keyAt rows (partsN rows mn * mn), ⟨#[]⟩⟩]
def perrP (rows : List Rw) (most : Int) : Int := if wrongP rows = 0 then (if most < 1 then 1 else 0) else wrongP rows
def partsR (rows : List Rw) (most : Int) : List SpanR := if perrP rows most = 0 then partsL rows most.toNat else []
theorem partsN_of {rows : List Rw} {mn j : Nat} (h1 : 1 ≤ mn) (h2 : j = 0 ∨ j * mn < rows.length) (h3 : rows.length ≤ j * mn + mn) : partsN rows mn = j := by
  unfold partsN
  rcases h2 with rfl | h2
  · rw [Nat.div_eq_of_lt (by omega)]
  · refine Nat.div_eq_of_lt_le (by omega) ?_
    rw [Nat.succ_mul]
    omega
def PartsPost (w : World) (rows : List Rw) (most : Int) (e : Ending) (w' : World) : Prop :=
  ∃ (A : Option Addr) (n c : Nat), e = .returned (.tuple #[.slice A n c, .int .i64 (perrP rows most)]) ∧ Below w.heap.size w w' ∧ w'.ownsRow w.heap.size 39 2 (.slice A n c) n (sCells (partsR rows most))

set_option maxHeartbeats 8000000 in
set_option maxRecDepth 100000 in
theorem Parts_calls {base : Nat} {w : World} {B : Option Addr} {n d : Nat} {rows : List Rw} (hr : Rd base 29 w 3 B n d (rowCells rows)) (hn : n ≤ 1000000) (hbs : base ≤ w.heap.size) (most : Int) :
    Calls Try.prog 14 #[.slice B n d, .int .i64 most] w (PartsPost w rows most) := by
  have hcn := hr.count (enc := Rw.enc) (fun _ => rfl) (by omega)
  have RR := Asd.mk hr
  have N := Asd.mk hcn
  clear hr hcn
  go_enter Try.func14, Try.ntmps14
  go_wp2_with fail
  refine (wrong_calls RR.out hn hbs).mono ?_
  rintro e w1 ⟨rfl, hb1⟩
  have B1 := Asd.mk hb1
  clear hb1
  by_cases he : wrongP rows = 0
  · have HE := Asd.mk he
    rw [he]
    clear he
    by_cases hm : most < 1
    · have hp : perrP rows most = 1 := by unfold perrP; rw [if_pos HE.out, if_pos hm]
      have PE := Asd.mk hp
      clear hp
      go_wp2_with fail
      go_ret2
      refine ⟨none, 0, 0, by rw [PE.out]; rfl, B1.out, ?_⟩
      unfold partsR
      rw [PE.out, if_neg (by omega)]
      exact World.ownsRow_nil _ _ _ _
    · have hp : perrP rows most = 0 := by unfold perrP; rw [if_pos HE.out, if_neg hm]
      have PE := Asd.mk hp
      obtain ⟨mn, rfl⟩ : ∃ mn : Nat, most = mn := ⟨most.toNat, by omega⟩
      have hmn : 1 ≤ mn := by omega
      clear hp
      go_wp2_with fail
      go_loopw [7, 8, 9] (fun s7 s8 s9 wr => ∃ (j p q co cr : Nat) (Ao Ar : Option Addr), s7 = .slice Ao j co ∧ s8 = .string (keyAt rows p) ∧ s9 = .slice Ar q cr ∧ q + p = n ∧ j ≤ p ∧ (p = 0 ∨ p < n) ∧ Asd (p = j * mn) ∧ Asd (Below w.heap.size w wr) ∧
        Asd (Rd base 29 wr 3 Ar q cr (rowCells (rows.drop p))) ∧ Asd (wr.ownsRow w.heap.size 39 2 (.slice Ao j co) j (sCells (outP rows mn j)))) (fun _ _ s9 _ => match s9 with | .slice _ q _ => q | _ => 0)
      case atStart => exact ⟨0, 0, n, 0, d, none, B, rfl, rfl, rfl, by omega, by omega, .inl rfl, ⟨by simp⟩, B1, ⟨RR.out.below B1.out⟩, ⟨World.ownsRow_nil _ _ _ _⟩⟩
      case round =>
        obtain ⟨j, p, q, co, cr, Ao, Ar, rfl, rfl, rfl, hq, hjp, hp0, PJ, BW, RW, OW⟩ := hrel
        have hqc : q ≤ cr := RW.out.cap
        by_cases hlt : mn < q
        · have hcr : ¬ cr = mn := by omega
          have hmc : mn ≤ cr := by omega
          have hcut := RW.out.cut (lo := mn) (hi := q) (c' := cr) (by omega) (Nat.le_refl _) hqc (Nat.le_refl _)
          rw [if_neg hcr, show (rowCells (rows.drop p)).drop (mn * 3) = rowCells ((rows.drop p).drop mn) from flat_drop Rw.enc 3 (fun _ => rfl) _ mn, List.drop_drop, List.take_of_length_le (by rw [show (rowCells (rows.drop (p + mn))).length = (rows.drop (p + mn)).length * 3 from flat_len Rw.enc 3 (fun _ => rfl) _, List.length_drop, N.out]; omega)] at hcut
          have CUT := Asd.mk hcut
          have hnn := N.out
          obtain ⟨rb, ro, rfl, _, _⟩ := RW.out.at_ (by omega)
          have hcut2 := hcut
          rw [show (Option.map (fun x => Addr.add x (mn * 3)) (some ⟨rb, ro, none⟩) : Option Addr) = some ⟨rb, ro + mn * 3, none⟩ from by simp [add_lit']] at hcut2
          have hpm : p + mn < rows.length := by omega
          have hka : keyAt rows (p + mn) = rows[p + mn].key := by
            unfold keyAt
            rw [if_neg (by omega), List.getD_eq_getElem?_getD, List.getElem?_eq_getElem hpm]
            rfl
          obtain ⟨rb', ro', hA', _, hl0, hcs⟩ := hcut2.at_enc (enc := Rw.enc) (fun _ => rfl) (by omega) (i := 0) (by omega)
          cases hA'
          have k0 : wr.cell? ⟨rb, ro + mn * 3, none⟩ = some (.string (keyAt rows (p + mn))) := by
            have := hcs 0 _ rfl
            rw [List.getElem_drop] at this
            rw [hka]
            simpa using this
          have CUT2 := Asd.mk hcut2
          have hqm : 0 < q - mn := by omega
          have hqm2 : ¬ q - mn = 0 := by omega
          generalize hK : keyAt rows (p + mn) = K at k0
          generalize hF : keyAt rows p = F
          have HK := Asd.mk hK
          have HF := Asd.mk hF
          clear hcut hcut2 hcs hka hK hF CUT
          have hj : j ≤ 1000000 := by omega
          go_wp2_with (at_builtin; refine wpList_append_mine (base := base) (own := w.heap.size) (n := j) (m := 1) (v := .slice Ao j co) (xs := sCells (outP rows mn j)) (ys := sCells [⟨F, K⟩]) rfl (.tmp 25) (.tmp 32) 33 rfl elt_span rfl rfl (OW.out.alloc _) (Rd.new_ rfl rfl) (span_one _) (by unfold maxLen; omega) (by omega) (Nat.le_trans BW.out.size (by simp)) ?_; intro v8 w8 O8' G8'; obtain ⟨P8, c8, rfl, _⟩ := Rd.of_own (base := base) O8'; have O8 := Asd.mk O8'; have hist := fun j hj => (own_ist (OW.out.alloc (.cells #[.string F, .string K] 39)) j hj); have C8 := Asd.mk ((CUT2.out.alloc (.cells #[.string F, .string K] 39)).grownR G8' (fun j hj => ⟨(hist j hj).1, Nat.le_trans hbs (hist j hj).2⟩) (by decide)); have B8 := Asd.mk ((BW.out.alloc BW.out.size (.cells #[.string F, .string K] 39)).grown G8' (Nat.le_trans BW.out.size (by simp)) (fun j hj => (OW.out.lt j hj).1)); obtain ⟨rb8, ro8, hA8, _, hl8, hcs8⟩ := C8.out.at_enc (enc := Rw.enc) (fun _ => rfl) (by omega) (i := 0) (by omega); cases hA8; have k8 : w8.cell? ⟨rb, ro + mn * 3, none⟩ = some (.string K) := (by have h8 := hcs8 0 _ rfl; rw [List.getElem_drop] at h8; rw [← HK.out]; unfold keyAt; rw [if_neg (by omega), List.getD_eq_getElem?_getD, List.getElem?_eq_getElem hpm]; simpa using h8); clear O8' G8' hist hcs8 k0)
          go_roundw
          case measure => simp; omega
          case rel =>
            have hre : sCells (outP rows mn j) ++ sCells [⟨F, K⟩] = sCells (outP rows mn (j + 1)) := by
              rw [outP_snoc, partAt, Nat.succ_mul, ← PJ.out, HF.out, HK.out]
              simp [sCells]
            have O9 := O8.out
            rw [hre] at O9
            exact ⟨j + 1, p + mn, q - mn, c8, cr - mn, P8, _, rfl, by rw [HK.out], rfl, by omega, by omega, by omega, ⟨by rw [Nat.succ_mul, ← PJ.out]⟩, B8, C8, ⟨O9⟩⟩
        · have hJ : partsN rows mn = j := partsN_of hmn (by rw [← PJ.out, N.out]; exact hp0.imp (fun h => (by omega)) id) (by rw [← PJ.out, N.out]; omega)
          have HJ := Asd.mk hJ
          generalize hF : keyAt rows p = F
          have HF := Asd.mk hF
          have hj : j ≤ 1000000 := by omega
          clear hJ hF
          go_wp2_with (at_builtin; refine wpList_append_mine (base := base) (own := w.heap.size) (n := j) (m := 1) (v := .slice Ao j co) (xs := sCells (outP rows mn j)) (ys := sCells [⟨F, ⟨#[]⟩⟩]) rfl (.tmp 38) (.tmp 41) 33 rfl elt_span rfl rfl (OW.out.alloc _) (Rd.new_ rfl rfl) (span_one _) (by unfold maxLen; omega) (by omega) (Nat.le_trans BW.out.size (by simp)) ?_; intro v8 w8 O8' G8'; obtain ⟨P8, c8, rfl, _⟩ := Rd.of_own (base := base) O8'; have O8 := Asd.mk O8'; have B8 := Asd.mk ((BW.out.alloc BW.out.size (.cells #[.string F, .string ⟨#[]⟩] 39)).grown G8' (Nat.le_trans BW.out.size (by simp)) (fun j hj => (OW.out.lt j hj).1)); clear O8' G8')
          go_ret2
          refine ⟨P8, j + 1, c8, by rw [PE.out]; rfl, B8.out, ?_⟩
          have hre : sCells (outP rows mn j) ++ sCells [⟨F, ⟨#[]⟩⟩] = sCells (partsR rows (mn : Int)) := by
            unfold partsR
            rw [if_pos PE.out, Int.toNat_natCast, partsL, HJ.out, ← PJ.out, HF.out]
            simp [sCells]
          have O9 := O8.out
          rw [hre] at O9
          exact O9
  · have hp : perrP rows most = wrongP rows := by unfold perrP; rw [if_neg he]
    have PE := Asd.mk hp
    have hpn : perrP rows most ≠ 0 := by rw [hp]; exact he
    have PN := Asd.mk hpn
    have he1 : (wrongP rows == 0) = false := by simpa using he
    have he2 : (wrongP rows != 0) = true := by simpa using he
    clear hp hpn
    generalize hE : wrongP rows = E at *
    go_wp2_with fail
    go_ret2
    refine ⟨none, 0, 0, by rw [PE.out]; rfl, B1.out, ?_⟩
    unfold partsR
    rw [if_neg PN.out]
    exact World.ownsRow_nil _ _ _ _
end Go.Proofs.Ytgiajfgeplekbaa

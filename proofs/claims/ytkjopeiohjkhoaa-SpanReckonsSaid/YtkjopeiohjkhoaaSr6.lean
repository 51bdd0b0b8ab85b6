/- The document's made: the normal list of what is in. -/
import Derived.Test.YtkjopeiohjkhoaaSr5
import Derived.Test.YtkjopeiohjkhoaaSr2
set_option linter.unusedVariables false
set_option linter.unusedSimpArgs false
namespace Go.Proofs.Ytkjopeiohjkhoaa
open Go.RowKit

def MadePost (rf : Bool → Bool → Bool) (w : World) (a b : List SpanR) (e : Ending) (w' : World) : Prop :=
  ∃ (P : Option Addr) (n c : Nat) (out : List SpanR), e = .returned (.slice P n c) ∧ Below w.heap.size w w' ∧ w'.ownsRow w.heap.size 35 2 (.slice P n c) n (sCells out) ∧ Made rf a b out
theorem rfHow_ff (how : Int) : rfHow how false false = false := by unfold rfHow; split <;> (try rfl); split <;> rfl

set_option maxHeartbeats 16000000 in
set_option maxRecDepth 100000 in
theorem made_calls {base : Nat} {w : World} {A B : Option Addr} {n c m d : Nat} {a b : List SpanR} (ha : Rd base 35 w 2 A n c (sCells a)) (hb : Rd base 35 w 2 B m d (sCells b)) (hn : n ≤ 4096) (hm : m ≤ 4096) (hbs : base ≤ w.heap.size) (how : Int) (hh : how = 0 ∨ how = 1 ∨ how = 2) :
    Calls Try.prog 31 #[.slice A n c, .slice B m d, .int .i64 how] w (MadePost (rfHow how) w a b) := by
  have hcn := ha.count (enc := SpanR.enc) (fun _ => rfl) (by omega)
  have hcm := hb.count (enc := SpanR.enc) (fun _ => rfl) (by omega)
  have RA := Asd.mk ha
  have RB := Asd.mk hb
  have LEN : Asd ((a ++ b).length ≤ 8192) := ⟨by rw [List.length_append]; omega⟩
  have E := Asd.mk (ends_calls ha hb hn hm hbs)
  have IN : Asd (∀ (W : World) (x : ByteArray), Below w.heap.size w W → Calls Try.prog 41 #[.slice A n c, .slice B m d, .string x, .int .i64 how] W fun e w' => e = .returned (.bool (rfHow how (inL a x) (inL b x))) ∧ w' = W) := ⟨fun W x hW => RefIn_calls (ha.below hW) (hb.below hW) (by omega) (by omega) x how hh⟩
  have RF := Asd.mk (rfHow_ff how)
  clear ha hb hcn hcm hbs hh
  generalize rfHow how = rf at *
  go_enter Try.func31, Try.ntmps31
  go_wp2_with fail
  refine E.out.mono ?_
  rintro e w1 ⟨L, nl, cl, ks, rfl, hb1, hL, hS⟩
  have B1 := Asd.mk hb1
  have XL := Asd.mk hL
  have KS := Asd.mk hS
  have hnk := hL.count (enc := tEnc) (fun _ => rfl) (by omega)
  have NK := Asd.mk hnk
  have hnl : nl ≤ 16384 := by
    have h1 := hS.2.2
    have h2 := allEnds_len (a ++ b)
    have h3 := LEN.out
    omega
  clear hb1 hL hS hnk E
  go_wp2_with fail
  go_loopw [8, 9, 10] (fun s8 s9 s10 wr => ∃ (i no co : Nat) (Po : Option Addr) (out : List SpanR) (was : Bool), s8 = .slice Po no co ∧ s9 = .bool was ∧ s10 = .int .i64 i ∧ i ≤ nl ∧ Asd (Below w1.heap.size w1 wr) ∧ Asd (wr.ownsRow w1.heap.size 35 2 (.slice Po no co) no (sCells out)) ∧ Asd (Mk (fun k => rf (inL a k) (inL b k)) (ks.take i) out was)) (fun _ _ s10 _ => nl - (intOf s10).toNat)
  case atStart => exact ⟨0, 0, 0, none, [], false, rfl, rfl, rfl, by omega, ⟨Below.refl _ _⟩, ⟨World.ownsRow_nil _ _ _ _⟩, ⟨Mk.nil _⟩⟩
  case round =>
    obtain ⟨i, no, co, Po, out, was, rfl, rfl, rfl, hi, BW, OW, MK⟩ := hrel
    by_cases hlt : i < nl
    · obtain ⟨lb, lo, rfl, hlb, hil, hcs⟩ := (XL.out.below BW.out).at_enc (enc := tEnc) (fun _ => rfl) (by omega) hlt
      have hcap : i < cl := Nat.lt_of_lt_of_le hlt XL.out.cap
      have c0 : wr.cell? ⟨lb, lo + i, none⟩ = some (.string ks[i]) := by simpa using hcs 0 _ rfl
      have htk : ks.take (i + 1) = ks.take i ++ [ks[i]] := List.take_succ_eq_append_getElem hil
      have hnx : ∀ y ∈ ks.take i, klt y ks[i] := fun y hy => by
        obtain ⟨j, hj, rfl⟩ := List.getElem_of_mem hy
        rw [List.length_take] at hj
        rw [List.getElem_take]
        exact List.pairwise_iff_getElem.1 KS.out.1 j i (by omega) hil (by omega)
      generalize ks[i] = x at c0 htk hnx
      have TK := Asd.mk htk
      have NXT := Asd.mk hnx
      have C0 := Asd.mk c0
      have LX := Asd.mk hlb
      have hno : out.length = no := own_slen OW.out
      have hno2 : no ≤ 16384 := by
        have h1 := MK.out.len
        rw [List.length_take] at h1
        omega
      have NOL := Asd.mk hno
      have SIZ := Asd.mk BW.out.size
      have OLT : Asd (∀ j, (Value.slice Po no co).ownBlock = some j → IsT wr j 35) := ⟨fun j hj => (own_ist OW.out j hj).1⟩
      clear hcs htk hnx hno hlb
      go_wp2_with fail
      refine (IN.out _ _ (B1.out.trans (BW.out.mono B1.out.size))).mono ?_
      rintro e w9 ⟨rfl, hw9⟩
      subst hw9
      generalize hisq : rf (inL a x) (inL b x) = is
      have HIS := Asd.mk hisq
      clear hisq
      generalize hww : was = wz
      have WZ := Asd.mk hww
      clear hww
      cases is
      · cases wz
        · as_aux_lemma =>
          go_wp2_with fail
          go_roundw
          case measure => simp [intOf]; omega
          case rel => exact ⟨i + 1, no, co, Po, out, false, rfl, rfl, by go_num, by omega, BW, OW, ⟨by rw [TK.out]; exact (WZ.out ▸ MK.out).same NXT.out HIS.out⟩⟩
        · as_aux_lemma =>
          obtain ⟨o, y, ho⟩ := MK.out.op WZ.out
          have HO := Asd.mk ho
          clear ho
          have hol : o.length + 1 = no := by have := NOL.out; rw [HO.out] at this; simpa using this
          obtain ⟨m1, hmm⟩ : ∃ m1, o.length = m1 := ⟨_, rfl⟩
          rw [hmm] at hol
          obtain ⟨gb, hgb⟩ := own_at OW.out (by omega)
          subst hgb
          have O8' := Asd.mk (HO.out ▸ OW.out)
          have hcap2 := own_cap OW.out
          have hfr := own_frozen OW.out (m1 * 2 + 1)
          have hcl := own_cell O8'.out (j := m1 * 2 + 1) (u := .string ⟨#[]⟩) (by omega) (by rw [← hmm]; exact sl_last o y)
          have hgl := OW.out.lt gb rfl
          have B9 : Asd (Below w1.heap.size w1 (w9.setCell ⟨gb, m1 * 2 + 1, none⟩ (.string x))) := ⟨BW.out.setCell (p := ⟨gb, m1 * 2 + 1, none⟩) hgl.1 _⟩
          clear hgl
          have hput := own_put O8'.out (j := m1 * 2 + 1) (by omega) (.string x)
          rw [show (sCells (o ++ [⟨y, ⟨#[]⟩⟩])).set (m1 * 2 + 1) (.string x) = sCells (o ++ [⟨y, x⟩]) by rw [← hmm]; exact sCells_set o ⟨y, ⟨#[]⟩⟩ x] at hput
          have PUT := Asd.mk hput
          have hm1 : m1 < no := by omega
          have hm2 : m1 < co := by omega
          have hw : wrap64 ((no : Int) - 1) = (m1 : Int) := by have := (wrap_in (z := (no : Int) - 1) (by omega)).1; rw [this]; omega
          have hw' : IntKind.i64.wrap ((no : Int) - 1) = (m1 : Int) := by have := (wrap_in (z := (no : Int) - 1) (by omega)).2; rw [this]; omega
          clear hput hol hno2
          go_upto_region 12 with fail
          clear hw hw'
          go_wp2_with fail
          go_roundw
          case measure => simp [intOf]; omega
          case rel => exact ⟨i + 1, no, co, some ⟨gb, 0, none⟩, o ++ [⟨y, x⟩], false, rfl, rfl, by go_num, by omega, B9, PUT, ⟨by rw [TK.out]; exact Mk.closes (HO.out ▸ WZ.out ▸ MK.out) NXT.out HIS.out⟩⟩
      · cases wz
        · as_aux_lemma =>
          go_wp2_with (at_builtin; go_loud (refine wpList_append_mine (base := base) (own := w1.heap.size) (n := no) (m := 1) (v := .slice Po no co) (xs := sCells out) (ys := sCells [⟨x, ⟨#[]⟩⟩]) rfl (.tmp 34) (.tmp 40) 22 rfl elt_span rfl rfl (OW.out.alloc _) (Rd.new_ rfl rfl) (span_one _) (by unfold maxLen; omega) (by omega) (Nat.le_trans SIZ.out (by simp)) ?_; intro v9 w10 O9' G9'; obtain ⟨P9, c9, rfl, _⟩ := Rd.of_own (base := base) O9'; have O9 : Asd (w10.ownsRow w1.heap.size 35 2 (.slice P9 (no + 1) c9) (no + 1) (sCells (out ++ [⟨x, ⟨#[]⟩⟩]))) := ⟨by rw [← sCells_snoc]; exact O9'⟩; have B9 := Asd.mk ((BW.out.alloc BW.out.size (.cells #[.string x, .string ⟨#[]⟩] 35)).grown G9' (Nat.le_trans BW.out.size (by simp)) (fun i hi => (OW.out.lt i hi).1)); clear O9' G9'))
          go_roundw
          case measure => simp [intOf]; omega
          case rel => exact ⟨i + 1, no + 1, c9, P9, _, true, rfl, rfl, by go_num, by omega, B9, O9, ⟨by rw [TK.out]; exact (WZ.out ▸ MK.out).opens NXT.out HIS.out⟩⟩
        · as_aux_lemma =>
          go_wp2_with fail
          go_roundw
          case measure => simp [intOf]; omega
          case rel => exact ⟨i + 1, no, co, Po, out, true, rfl, rfl, by go_num, by omega, BW, OW, ⟨by rw [TK.out]; exact (WZ.out ▸ MK.out).same NXT.out HIS.out⟩⟩
    · have hie : i = nl := by omega
      have MD : Asd (Made rf a b out) := ⟨by
        have h := MK.out
        rw [List.take_of_length_le (by have := NK.out; omega)] at h
        exact made_of RF.out KS.out h⟩
      clear hie
      go_wp2_with fail
      go_ret
      exact ⟨Po, no, co, out, rfl, B1.out.trans (BW.out.mono B1.out.size), own_le OW.out B1.out.size, MD.out⟩
end Go.Proofs.Ytkjopeiohjkhoaa

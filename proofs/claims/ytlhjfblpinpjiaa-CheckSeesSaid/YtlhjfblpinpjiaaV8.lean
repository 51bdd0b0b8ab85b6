/- The document's Do. -/
import Derived.Test.YtlhjfblpinpjiaaV7
import Derived.Test.YtlhjfblpinpjiaaTb8
set_option linter.unusedVariables false
set_option linter.unusedSimpArgs false
namespace Go.Proofs.Ytlhjfblpinpjiaa
open Go.RowKit

def RDoPost (base : Nat) (w : World) (A : Option Addr) (g : Nat) (d : DoR) (e : Ending) (w' : World) : Prop :=
  ∃ A1 n c rr, e = .returned (.tuple #[.slice A1 n c, .agg #[.int .i64 d.at_, .int .i64 d.code]]) ∧ w.grownBy w' (some g) ∧ (∃ A' c', RTab base w' g d.rows A' c' ∧ Fr w A A') ∧
    w'.ownsRow w.heap.size 47 4 (.slice A1 n c) n (resCells rr) ∧ RMs base w.heap.size w' rr d.res
theorem own_made1 (w : World) {base : Nat} {T : TypeId} (hb : base ≤ w.heap.size) (cs : Array Value) (k : Nat) (hs : cs.size = k) : (w.alloc (.cells cs T)).ownsRow base T k (.slice (some ⟨w.heap.size, 0, none⟩) 1 1) 1 cs.toList :=
  ⟨by simp [hs], .inr ⟨w.heap.size, 1, cs, rfl, hb, heap_alloc_new w _, Nat.le_refl _, by simp [maxLen], by simp [hs], by rw [List.take_of_length_le (by simp [hs])]⟩⟩
theorem RTab.back {base g c : Nat} {w W : World} {l l' : List Rw} {A A' : Option Addr} {c' : Nat} (h : RTab base w g l A c) (hg : w.grownBy W (some g)) (k : RTab base W g l' A' c') : RTab base (W.setCell ⟨g, 0, none⟩ (.slice A l.length c)) g l A c :=
  ⟨by simp [World.setCell, Array.getElem?_modify, k.blk], h.ge, (h.rd.grownR hg (fun j hj => by injection hj with hj; subst hj; exact ⟨⟨_, _, h.blk⟩, h.ge⟩) (by decide)).setCell (p := ⟨g, 0, none⟩) k.blk (by decide) h.ge _, h.srt, h.big, by simpa [World.setCell] using fun a ha => Nat.lt_of_lt_of_le (h.old a ha) hg.size⟩

theorem RDo_round {base k : Nat} {w w3 w4 : World} {g : Nat} {l : List Rw} {l' : List Rw} {ops : List OpR} {A A3 : Option Addr} {c3 : Nat} {u8 v4 : Value} {rr : List RRes} {q : RRes} {r : Res} (hbs : base ≤ w.heap.size) (hgl : g < w.heap.size)
    (hB : w.grownBy w3 (some g)) (hF : w3.heap[w.heap.size]? = some (.cells #[.int .i64 0, .int .i64 0] 35 (0, 0))) (hT : RTab base w3 g l' A3 c3) (hO : w3.ownsRow w.heap.size 47 4 u8 k (resCells rr))
    (hR : RMs base w.heap.size w3 rr (reP l (ops.take k))) (hM : RMatch base w.heap.size w3 q r) (o1 o2 : Obj)
    (hG : ((w3.alloc o1).alloc o2).grownBy w4 u8.ownBlock) (hO4 : w4.ownsRow w.heap.size 47 4 v4 (k + 1) (resCells rr ++ resCells [q])) (hs : l' = stP l (ops.take (k + 1))) (hn : reP l (ops.take (k + 1)) = reP l (ops.take k) ++ [r])
    (hC : ∀ x ∈ reP l (ops.take k) ++ [r], x.code = 0) (hfr : Fr w A A3) :
    Asd (w.grownBy w4 (some g)) ∧ Asd (w4.heap[w.heap.size]? = some (.cells #[.int .i64 0, .int .i64 0] 35 (0, 0))) ∧ Asd (∃ Ak ck, RTab base w4 g (stP l (ops.take (k + 1))) Ak ck ∧ Fr w A Ak) ∧
      Asd (w4.ownsRow w.heap.size 47 4 v4 (k + 1) (resCells (rr ++ [q]))) ∧ Asd (RMs base w.heap.size w4 (rr ++ [q]) (reP l (ops.take (k + 1)))) ∧ Asd (∀ x ∈ reP l (ops.take (k + 1)), x.code = 0) := by
  have hba : Below w3.heap.size w3 ((w3.alloc o1).alloc o2) := ((Below.refl _ _).alloc (Nat.le_refl _) _).alloc (by simp) _
  have hrow : ∀ j, u8.ownBlock = some j → IsT ((w3.alloc o1).alloc o2) j 47 ∧ w.heap.size ≤ j := fun j hj => own_ist ((hO.alloc _).alloc _) j hj
  have hrow' : ∀ j, u8.ownBlock = some j → IsT ((w3.alloc o1).alloc o2) j 47 ∧ base ≤ j := fun j hj => ⟨(hrow j hj).1, Nat.le_trans hbs (hrow j hj).2⟩
  have hFl : w.heap.size < w3.heap.size := (Array.getElem?_eq_some_iff.1 hF).1
  have hFa : ((w3.alloc o1).alloc o2).heap[w.heap.size]? = some (.cells #[.int .i64 0, .int .i64 0] 35 (0, 0)) := (hba.block _ hFl).trans hF
  subst hs
  have hs2 := gb_trans hB (gb_below hba _)
  refine ⟨⟨⟨hG.os.trans hs2.os, hG.tape.trans hs2.tape, hG.output.trans hs2.output, Nat.le_trans hs2.size hG.size, fun b hb hne => (hG.block b (Nat.lt_of_lt_of_le hb hs2.size) (fun e => by have := (hrow b e.symm).2; omega)).trans (hs2.block b hb hne)⟩⟩, ⟨?_⟩, ⟨A3, c3, (hT.below hba).grownR hG hrow' (by decide) (by decide), hfr⟩, ⟨?_⟩, ⟨?_⟩, ⟨by rw [hn]; exact hC⟩⟩
  · exact (hG.block _ (by simp; omega) (fun e => (IsT.ne (⟨_, _, hFa⟩ : IsT _ _ 35) (hrow _ e.symm).1 (by decide)) rfl)).trans hFa
  · have : resCells (rr ++ [q]) = resCells rr ++ resCells [q] := by simp [resCells]
    rw [this]; exact hO4
  · rw [hn]
    exact All2.snoc ((hR.below hba).grownR hG hrow' (by decide)) ((hM.below hba).grownR hG hrow' (by decide))
theorem not_any {ops : List OpR} (h : ∀ r ∈ ops, opOk r = true) : ops.any (fun x => !opOk x) = false := by
  rw [List.any_eq_false]
  intro x hx
  rw [h x hx]
  decide

set_option maxHeartbeats 8000000 in
set_option maxRecDepth 100000 in
theorem RDo_calls {base g c : Nat} {w : World} {l : List Rw} {A : Option Addr} (h : RTab base w g l A c) (ops : List OpR) (Ao : Option Addr) (no co : Nat) (ho : Rd base 64 w 6 Ao no co (opCells ops)) (hf : ∀ x ∈ ops, Fits x) :
    Calls Try.prog 57 #[.pointer (some ⟨g, 0, none⟩), .slice Ao no co] w (RDoPost base w A g (doP l ops)) := by
  have hn := ho.count (enc := OpR.enc) (fun _ => rfl) (by omega)
  generalize hp : doP l ops = d
  have P := Asd.mk hp
  clear hp
  have H := Asd.mk h
  have O := Asd.mk ho
  have N := Asd.mk hn
  have F := Asd.mk hf
  have hgl := h.lt
  have hbs : base ≤ w.heap.size := by have := h.ge; omega
  clear h ho hf hn
  have badf : ∀ (W : World) (a cc : Int), Below w.heap.size w W → d = ⟨l, [], a, cc⟩ → RDoPost base w A g d (.returned (.tuple #[.slice none 0 0, .agg #[.int .i64 a, .int .i64 cc]])) W := by
    rintro W a cc hB rfl
    exact ⟨none, 0, 0, [], rfl, gb_below hB _, ⟨A, c, H.out.below hB, .inl rfl⟩, World.ownsRow_nil _ _ _ _, trivial⟩
  have BAD := Asd.mk badf
  clear badf
  have hal : Below w.heap.size w (w.alloc (.cells #[.int .i64 0, .int .i64 0] 35)) := (Below.refl _ _).alloc (Nat.le_refl _) _
  have B0 := Asd.mk hal
  have F0 : Asd ((w.alloc (.cells #[.int .i64 0, .int .i64 0] 35)).heap[w.heap.size]? = some (.cells #[.int .i64 0, .int .i64 0] 35 (0, 0))) := ⟨heap_alloc_new w _⟩
  clear hal
  by_cases hbad : no < 1 ∨ 32 < no
  · have D : Asd (d = ⟨l, [], 0, 80⟩) := ⟨P.out.symm.trans (doP_bad (by have := N.out; omega))⟩
    have h1 : (no : Int) < 1 ∨ (¬ (no : Int) < 1 ∧ (32 : Int) < (no : Int)) := by omega
    clear hbad
    rcases h1 with h1 | ⟨h1, h2⟩
    all_goals
      go_enter Try.func57, Try.ntmps57
      go_wp2_with fail
      refine (RFault_calls _ _ _).mono ?_
      rintro e w1 ⟨rfl, hb1⟩
      have BB := Asd.mk (B0.out.trans (hb1.mono B0.out.size))
      have k1 := (hb1.block _ (by simp)).trans F0.out
      have r0 : w1.cell? ⟨w.heap.size, 0, none⟩ = some (.int .i64 0) := cell_of_row _ _ 0 _ _ _ k1
      have r1 : w1.cell? ⟨w.heap.size, 1, none⟩ = some (.int .i64 0) := cell_of_row _ _ 1 _ _ _ k1
      have f0 : ∀ o, w1.frozen? ⟨w.heap.size, o, none⟩ = false := fun o => frozen_of_row _ _ o _ _ k1
      have hs1 : w.heap.size < w1.heap.size := (Array.getElem?_eq_some_iff.1 k1).1
      clear hb1 k1
      go_wp2_with fail
      refine bodyPost_ret (v := .tuple #[.slice none 0 0, .agg #[.int .i64 0, .int .i64 80]]) (by simp [results, Try.results57, go_sem, r0, r1, hs1]) rfl ?_
      exact BAD.out _ _ _ (by repeat (first | exact BB.out | refine Below.setCell ?_ (by simp) _)) D.out
  · have hok : ¬ (ops.length < 1 ∨ 32 < ops.length) := by have := N.out; omega
    have OK := Asd.mk hok
    have h1' : ¬ (no : Int) < 1 := by omega
    have h2' : ¬ (32 : Int) < (no : Int) := by omega
    clear hok hbad
    go_enter Try.func57, Try.ntmps57
    go_wp2_with fail
    generalize (w.alloc (.cells #[.int .i64 0, .int .i64 0] 35)) = w0 at *
    go_loopw [6] (fun s6 wr => ∃ i : Nat, s6 = .int .i64 i ∧ i ≤ no ∧ Asd (Below w.heap.size w wr) ∧ Asd (wr.heap[w.heap.size]? = some (.cells #[.int .i64 0, .int .i64 0] 35 (0, 0))) ∧ Asd (∀ r ∈ ops.take i, opOk r = true)) (fun s6 _ => no - (intOf s6).toNat)
    case atStart => exact ⟨0, rfl, Nat.zero_le _, B0, F0, ⟨fun r hr => by simp at hr⟩⟩
    case round =>
      clear B0 F0
      obtain ⟨i, rfl, hin, BW, FW, IW⟩ := hrel
      by_cases hlt : i < no
      · obtain ⟨b, off, rfl, hb, hil, hcs⟩ := (O.out.below BW.out).at_enc (enc := OpR.enc) (fun _ => rfl) (by omega) hlt
        have hcap : i < co := Nat.lt_of_lt_of_le hlt O.out.cap
        have MC : Asd (∀ W, Calls Try.prog 69 #[.agg ops[i].enc.toArray] W fun e w' => e = .returned (.bool (opOk ops[i])) ∧ Below W.heap.size W w') := ⟨fun W => RMay_calls ops[i] W⟩
        have YES : Asd (opOk ops[i] = true → ∀ r ∈ ops.take (i + 1), opOk r = true) := ⟨fun hy r hr => by
          rw [List.take_succ_eq_append_getElem hil] at hr
          rcases List.mem_append.1 hr with h | h
          · exact IW.out r h
          · rw [List.mem_singleton] at h
            rw [h]; exact hy⟩
        have NO : Asd (opOk ops[i] = false → d = ⟨l, [], i, 80⟩) := ⟨fun hy => by
          have hany : ops.any (fun x => !opOk x) = true := List.any_eq_true.2 ⟨_, List.getElem_mem hil, by rw [hy]; rfl⟩
          rw [← P.out, doP_may OK.out hany, fidx_hit (fun x => !opOk x) ops i hil (by simp [hy]) (fun j hj hji => by
            have := IW.out ops[j] (by rw [List.mem_take_iff_getElem]; exact ⟨j, by omega, rfl⟩)
            simp [this])]⟩
        generalize ops[i] = y at hcs MC YES NO
        have c0 := hcs 0 _ rfl
        have c1 := hcs 1 _ rfl
        have c2 := hcs 2 _ rfl
        have c3 := hcs 3 _ rfl
        have c4 := hcs 4 _ rfl
        have c5 := hcs 5 _ rfl
        rw [Nat.add_zero] at c0
        unfold OpR.enc at MC
        clear hcs
        go_wp2_with fail
        refine (MC.out _).mono ?_
        rintro e w1 ⟨rfl, hb1⟩
        have BB := Asd.mk (BW.out.trans (hb1.mono BW.out.size))
        have K1 := Asd.mk ((hb1.block _ (Array.getElem?_eq_some_iff.1 FW.out).1).trans FW.out)
        clear hb1
        cases hy : opOk y with
        | true =>
          have YS := Asd.mk (YES.out hy)
          clear hy YES NO MC c0 c1 c2 c3 c4 c5
          go_wp2_with fail
          go_roundw
          case measure => simp [intOf]; omega
          case rel => exact ⟨i + 1, by go_num, by omega, BB, K1, YS⟩
        | false =>
          have D := Asd.mk (NO.out hy)
          clear hy YES NO MC c0 c1 c2 c3 c4 c5
          go_wp2_with fail
          refine (RFault_calls _ _ _).mono ?_
          rintro e w2 ⟨rfl, hb2⟩
          have B2 := Asd.mk (BB.out.trans (hb2.mono BB.out.size))
          have k1 := (hb2.block _ (Array.getElem?_eq_some_iff.1 K1.out).1).trans K1.out
          have r0 : w2.cell? ⟨w.heap.size, 0, none⟩ = some (.int .i64 0) := cell_of_row _ _ 0 _ _ _ k1
          have r1 : w2.cell? ⟨w.heap.size, 1, none⟩ = some (.int .i64 0) := cell_of_row _ _ 1 _ _ _ k1
          have f0 : ∀ o, w2.frozen? ⟨w.heap.size, o, none⟩ = false := fun o => frozen_of_row _ _ o _ _ k1
          have hs1 : w.heap.size < w2.heap.size := (Array.getElem?_eq_some_iff.1 k1).1
          clear hb2 k1
          go_wp2_with fail
          refine bodyPost_ret (v := .tuple #[.slice none 0 0, .agg #[.int .i64 i, .int .i64 80]]) (by simp [results, Try.results57, go_sem, r0, r1, hs1]) rfl ?_
          exact BAD.out _ _ _ (by repeat (first | exact B2.out | refine Below.setCell ?_ (by simp) _)) D.out
      · obtain rfl : i = no := by omega
        have hall : ∀ r ∈ ops, opOk r = true := by
          have h := IW.out
          rwa [List.take_of_length_le (by have := N.out; omega)] at h
        have ALL := Asd.mk hall
        have ANY := Asd.mk (not_any hall)
        clear hall IW
        have hFl : w.heap.size < wr.heap.size := (Array.getElem?_eq_some_iff.1 FW.out).1
        by_cases h1 : i = 1
        · subst h1
          obtain ⟨y, rfl⟩ : ∃ y, ops = [y] := List.length_eq_one_iff.1 N.out
          have D : Asd (d = ⟨(oneP l y).1, [(oneP l y).2], 0, 0⟩) := ⟨by rw [← P.out, doP_ok OK.out ANY.out (fun h => absurd h (by simp))]; rfl⟩
          obtain ⟨b, off, rfl, hb, hil, hcs⟩ := (O.out.below BW.out).at_enc (enc := OpR.enc) (fun _ => rfl) (by omega) (i := 0) (by omega)
          have hcap : 0 < co := Nat.lt_of_lt_of_le (show 0 < 1 by omega) O.out.cap
          have ONE := Asd.mk (ROne_calls (H.out.below BW.out) y (F.out y (by simp)).2 (ALL.out y (by simp)))
          have c0 := hcs 0 _ rfl
          have c1 := hcs 1 _ rfl
          have c2 := hcs 2 _ rfl
          have c3 := hcs 3 _ rfl
          have c4 := hcs 4 _ rfl
          have c5 := hcs 5 _ rfl
          simp only [List.getElem_cons_zero, Nat.zero_mul, Nat.add_zero] at c0 c1 c2 c3 c4 c5
          unfold OpR.enc at ONE
          clear hcs hil
          generalize oneP l y = p at ONE D
          obtain ⟨l', code, st, val, rows⟩ := p
          go_wp2_with fail
          refine ONE.out.mono ?_
          rintro e w3 ⟨A1, n1, c1', rfl, hg3, ⟨A3, c3', hT3, hfr3⟩, hr3, ho3⟩
          have hgr : w.grownBy w3 (some g) := gb_trans (gb_below BW.out _) hg3
          have k1 := (gb_keep hg3 hFl (by omega)).trans FW.out
          have r0 : w3.cell? ⟨w.heap.size, 0, none⟩ = some (.int .i64 0) := cell_of_row _ _ 0 _ _ _ k1
          have r1 : w3.cell? ⟨w.heap.size, 1, none⟩ = some (.int .i64 0) := cell_of_row _ _ 1 _ _ _ k1
          have f0 : ∀ o, w3.frozen? ⟨w.heap.size, o, none⟩ = false := fun o => frozen_of_row _ _ o _ _ k1
          have hs3 : w.heap.size < w3.heap.size := (Array.getElem?_eq_some_iff.1 k1).1
          have IS3 : Asd (IsT w3 w.heap.size 35) := ⟨_, _, k1⟩
          have G3 := Asd.mk hgr
          have T3 := Asd.mk hT3
          have FR3 := Asd.mk (Fr.mono hfr3 BW.out.size)
          have M3 := Asd.mk (⟨rfl, rfl, rfl, hr3, own_le ho3 BW.out.size⟩ : RMatch base w.heap.size w3 ⟨code, st, val, A1, n1, c1'⟩ ⟨code, st, val, rows⟩)
          clear hgr hg3 hT3 hfr3 hr3 ho3 k1 ONE c0 c1 c2 c3 c4 c5
          unfold Res.raw
          go_wp2_with fail
          refine bodyPost_ret (v := .tuple #[.slice (some ⟨w3.heap.size + 1, 0, none⟩) 1 1, .agg #[.int .i64 0, .int .i64 0]]) (by simp [results, Try.results57, go_sem, r0, r1, hs3]) rfl ?_
          rw [D.out]
          have hge : base ≤ w.heap.size := hbs
          have t2 := (T3.out.set (p := ⟨w.heap.size, 0, none⟩) IS3.out (by decide) (by decide) hge (.int .i64 0)).set (p := ⟨w.heap.size, 1, none⟩) (IS3.out.set _ _) (by decide) (by decide) hge (.int .i64 0)
          have g2 := gb_set (gb_set G3.out (p := ⟨w.heap.size, 0, none⟩) (Nat.le_refl _) (.int .i64 0)) (p := ⟨w.heap.size, 1, none⟩) (Nat.le_refl _) (.int .i64 0)
          have m2 := (M3.out.set (p := ⟨w.heap.size, 0, none⟩) IS3.out (by decide) hge (.int .i64 0)).set (p := ⟨w.heap.size, 1, none⟩) (IS3.out.set _ _) (by decide) hge (.int .i64 0)
          have hsz : ((w3.setCell ⟨w.heap.size, 0, none⟩ (.int .i64 0)).setCell ⟨w.heap.size, 1, none⟩ (.int .i64 0)).heap.size = w3.heap.size := by simp [World.setCell]
          generalize ((w3.setCell ⟨w.heap.size, 0, none⟩ (.int .i64 0)).setCell ⟨w.heap.size, 1, none⟩ (.int .i64 0)) = w5 at *
          have hA : ∀ o1 o2, Below w5.heap.size w5 ((w5.alloc o1).alloc o2) := fun o1 o2 => ((Below.refl _ _).alloc (Nat.le_refl _) _).alloc (by simp) _
          refine ⟨some ⟨w3.heap.size + 1, 0, none⟩, 1, 1, [⟨code, st, val, A1, n1, c1'⟩], rfl, gb_trans g2 (gb_below (hA _ _) _), ⟨A3, c3', t2.below (hA _ _), FR3.out⟩, ?_, ⟨m2.below (hA _ _), trivial⟩⟩
          have hown := own_made1 (w5.alloc (.cells #[.int .i64 code, .int .i64 st, .string val, .slice A1 n1 c1'] 47)) (base := w.heap.size) (T := 47) (by have := g2.size; simp; omega) #[.int .i64 code, .int .i64 st, .string val, .slice A1 n1 c1'] 4 rfl
          rw [show (w5.alloc (.cells #[.int .i64 code, .int .i64 st, .string val, .slice A1 n1 c1'] 47)).heap.size = w3.heap.size + 1 from by simp [hsz]] at hown
          exact hown
        · have hn1 : ¬ (i : Int) = 1 := by omega
          have hn1b : ((i : Int) == 1) = false := by rw [beq_eq_false_iff_ne]; exact hn1
          have hi1 : 1 < i := by omega
          have hcg := (H.out.below BW.out).cell
          have G1 := Asd.mk (gb_below BW.out (some g))
          have T1 : Asd (∃ Ak ck, RTab base wr g l Ak ck ∧ Fr w A Ak) := ⟨A, c, H.out.below BW.out, .inl rfl⟩
          clear h1
          go_wp2_with fail
          clear hcg
          go_loopw [9, 10] (fun s9 s10 wq => ∃ (k : Nat) (rr : List RRes), s10 = .int .i64 k ∧ k ≤ i ∧ Asd (w.grownBy wq (some g)) ∧ Asd (wq.heap[w.heap.size]? = some (.cells #[.int .i64 0, .int .i64 0] 35 (0, 0))) ∧
            Asd (∃ Ak ck, RTab base wq g (stP l (ops.take k)) Ak ck ∧ Fr w A Ak) ∧ Asd (wq.ownsRow w.heap.size 47 4 s9 k (resCells rr)) ∧ Asd (RMs base w.heap.size wq rr (reP l (ops.take k))) ∧ Asd (∀ r ∈ reP l (ops.take k), r.code = 0))
            (fun _ s10 _ => i - (intOf s10).toNat)
          case atStart => exact ⟨0, [], rfl, Nat.zero_le _, G1, FW, T1, ⟨World.ownsRow_nil _ _ _ _⟩, ⟨trivial⟩, ⟨fun r hr => by cases hr⟩⟩
          case round =>
            clear G1 FW T1 BW hFl
            obtain ⟨k, rr, rfl, hkn, GW, FW, TW, OW, RW, CW⟩ := hrel
            have hFl : w.heap.size < wr.heap.size := (Array.getElem?_eq_some_iff.1 FW.out).1
            have hrd : Rd base 64 wr 6 Ao i co (opCells ops) := O.out.grownR GW.out (fun j hj => by injection hj with hj; subst hj; exact ⟨⟨_, _, H.out.blk⟩, H.out.ge⟩) (by decide)
            by_cases hlt : k < i
            · obtain ⟨b, off, rfl, hb, hl, hcs⟩ := hrd.at_enc (enc := OpR.enc) (fun _ => rfl) (by omega) hlt
              have hcap : k < co := Nat.lt_of_lt_of_le hlt O.out.cap
              obtain ⟨Ak, ck, hTk, hFrk⟩ := TW.out
              have hmem : ops[k] ∈ ops := List.getElem_mem hl
              have hone := ROne_calls hTk ops[k] (F.out _ hmem).2 (ALL.out _ hmem)
              have hsn : stP l (ops.take (k + 1)) = (oneP (stP l (ops.take k)) ops[k]).1 := by rw [List.take_succ_eq_append_getElem hl, stP_snoc]
              have hrn : reP l (ops.take (k + 1)) = reP l (ops.take k) ++ [(oneP (stP l (ops.take k)) ops[k]).2] := by rw [List.take_succ_eq_append_getElem hl, reP_snoc]
              have hfa : (oneP (stP l (ops.take k)) ops[k]).2.code ≠ 0 → d = ⟨l, [], k, (oneP (stP l (ops.take k)) ops[k]).2.code⟩ := fun h1 => P.out.symm.trans (doP_fail OK.out ANY.out (by have := N.out; omega) k hl CW.out h1)
              generalize hy : ops[k] = y at hcs hone hsn hrn hfa
              have c0 := hcs 0 _ rfl
              have c1 := hcs 1 _ rfl
              have c2 := hcs 2 _ rfl
              have c3 := hcs 3 _ rfl
              have c4 := hcs 4 _ rfl
              have c5 := hcs 5 _ rfl
              rw [Nat.add_zero] at c0
              generalize hp : oneP (stP l (ops.take k)) y = p at hone hsn hrn hfa
              have ONE := Asd.mk hone
              have SN := Asd.mk hsn
              have RN := Asd.mk hrn
              have FA := Asd.mk hfa
              have TK := Asd.mk hTk
              have FRK := Asd.mk hFrk
              clear hcs hone hsn hrn hfa hTk hFrk hy hp hmem hrd TW
              obtain ⟨l', code, st, val, rows⟩ := p
              unfold OpR.enc at ONE
              go_wp2_with fail
              refine ONE.out.mono ?_
              rintro e w3 ⟨A1, n1, c1', rfl, hg3, ⟨A3, c3', hT3, hfr3⟩, hr3, ho3⟩
              have hGU : IsT wr g 84 := ⟨_, _, TK.out.blk⟩
              have hgn : w.heap.size ≠ g := by omega
              have hF3 := (gb_keep hg3 hFl hgn).trans FW.out
              have O3 := Asd.mk (own_grownR OW.out hg3 (fun j hj => by injection hj with hj; subst hj; exact hGU) (by decide))
              have R3 := Asd.mk (RW.out.grownR hg3 (fun j hj => by injection hj with hj; subst hj; exact ⟨hGU, H.out.ge⟩) (by decide))
              have F3 := Asd.mk hF3
              have G3 := Asd.mk (gb_trans GW.out hg3)
              have T3 := Asd.mk hT3
              have FR3 := Asd.mk (Fr.trans FRK.out hfr3 GW.out.size)
              have M3 := Asd.mk (⟨rfl, rfl, rfl, hr3, own_le ho3 GW.out.size⟩ : RMatch base w.heap.size w3 ⟨code, st, val, A1, n1, c1'⟩ ⟨code, st, val, rows⟩)
              have hs3 : w.heap.size < w3.heap.size := Nat.lt_of_lt_of_le hFl hg3.size
              clear hF3 hGU hg3 hT3 hfr3 hr3 ho3 ONE c0 c1 c2 c3 c4 c5 GW FW OW RW TK FRK
              unfold Res.raw
              by_cases hc0 : code = 0
              · subst hc0
                clear FA
                go_wp2_with (at_builtin; refine wpList_append_mine (base := base) (own := w.heap.size) (n := k) (xs := resCells rr) (ys := resCells [⟨0, st, val, A1, n1, c1'⟩]) rfl (.tmp 73) (.tmp 75) 40 rfl elt_res rfl rfl ((O3.out.alloc _).alloc _) (Rd.new2 _ rfl rfl) (res_one _) (by simp only [maxLen]; omega) (by omega) (by simp; omega) ?_; intro v4 w4 O4' G4'; have O4 := Asd.mk O4'; have G4 := Asd.mk G4'; clear O4' G4')
                go_roundw
                case measure => simp [intOf]; omega
                case rel => exact ⟨k + 1, rr ++ [⟨0, st, val, A1, n1, c1'⟩], by go_num, by omega, RDo_round hbs hgl G3.out F3.out T3.out O3.out R3.out M3.out _ _ G4.out O4.out SN.out.symm RN.out (fun r hr => (List.mem_append.1 hr).elim (CW.out r) (fun h => by rw [List.mem_singleton.1 h])) FR3.out⟩
              · have hcb : (code == 0) = false := by simpa using hc0
                have hcb' : (code != 0) = true := by simpa using hc0
                have D := Asd.mk (FA.out hc0)
                have hcg := T3.out.cell
                have hfg := T3.out.frozen
                have hg3l : g < w3.heap.size := T3.out.lt
                clear FA hc0
                go_wp2_with fail
                have hne : w.heap.size ≠ g := by omega
                have TB := H.out.back G3.out T3.out
                have GB := gb_setg G3.out (.slice A l.length c)
                have FB : (w3.setCell ⟨g, 0, none⟩ (.slice A l.length c)).heap[w.heap.size]? = some (.cells #[.int .i64 0, .int .i64 0] 35 (0, 0)) := (Below.heap_setCell _ _ _ _ (by simpa using hne)).trans F3.out
                generalize (w3.setCell ⟨g, 0, none⟩ (.slice A l.length c)) = w5 at *
                have hA : ∀ o, Below w5.heap.size w5 (w5.alloc o) := fun o => (Below.refl _ _).alloc (Nat.le_refl _) _
                refine (RFault_calls _ _ _).mono ?_
                rintro e w6 ⟨rfl, hb6⟩
                have hb56 : Below w5.heap.size w5 w6 := (hA _).trans (hb6.mono (hA _).size)
                have k1 := (hb56.block _ (Array.getElem?_eq_some_iff.1 FB).1).trans FB
                have r0 : w6.cell? ⟨w.heap.size, 0, none⟩ = some (.int .i64 0) := cell_of_row _ _ 0 _ _ _ k1
                have r1 : w6.cell? ⟨w.heap.size, 1, none⟩ = some (.int .i64 0) := cell_of_row _ _ 1 _ _ _ k1
                have f0 : ∀ o, w6.frozen? ⟨w.heap.size, o, none⟩ = false := fun o => frozen_of_row _ _ o _ _ k1
                have hs6 : w.heap.size < w6.heap.size := (Array.getElem?_eq_some_iff.1 k1).1
                have IS6 : Asd (IsT w6 w.heap.size 35) := ⟨_, _, k1⟩
                have T6 := Asd.mk (TB.below hb56)
                have G6 := Asd.mk (gb_trans GB (gb_below hb56 _))
                clear TB GB FB hA hb6 hb56 k1 hcg hfg hg3l
                go_wp2_with fail
                refine bodyPost_ret (v := .tuple #[.slice none 0 0, .agg #[.int .i64 k, .int .i64 code]]) (by simp [results, Try.results57, go_sem, r0, r1, hs6]) rfl ?_
                rw [D.out]
                exact ⟨none, 0, 0, [], rfl, gb_set (gb_set G6.out (p := ⟨w.heap.size, 0, none⟩) (Nat.le_refl _) _) (p := ⟨w.heap.size, 1, none⟩) (Nat.le_refl _) _, ⟨A, c, (T6.out.set (p := ⟨w.heap.size, 0, none⟩) IS6.out (by decide) (by decide) hbs _).set (p := ⟨w.heap.size, 1, none⟩) (IS6.out.set _ _) (by decide) (by decide) hbs _, .inl rfl⟩, World.ownsRow_nil _ _ _ _, trivial⟩
            · obtain rfl : k = i := by omega
              have htk : ops.take k = ops := List.take_of_length_le (by have := N.out; omega)
              obtain ⟨Ak, ck, hTk, hFrk⟩ := TW.out
              have hR := RW.out
              have hC := CW.out
              rw [htk] at hTk hR hC
              have D : Asd (d = ⟨stP l ops, reP l ops, 0, 0⟩) := ⟨P.out.symm.trans (doP_ok OK.out ANY.out (fun _ => hC))⟩
              obtain ⟨As, cs, rfl, _⟩ := Rd.of_own (base := base) OW.out
              have r0 : wr.cell? ⟨w.heap.size, 0, none⟩ = some (.int .i64 0) := cell_of_row _ _ 0 _ _ _ FW.out
              have r1 : wr.cell? ⟨w.heap.size, 1, none⟩ = some (.int .i64 0) := cell_of_row _ _ 1 _ _ _ FW.out
              have f0 : ∀ o, wr.frozen? ⟨w.heap.size, o, none⟩ = false := fun o => frozen_of_row _ _ o _ _ FW.out
              have hI : IsT wr w.heap.size 35 := ⟨_, _, FW.out⟩
              have TK := Asd.mk hTk
              have FRK := Asd.mk hFrk
              have RR := Asd.mk hR
              have II := Asd.mk hI
              clear hTk hFrk hR hC htk hI hrd
              go_wp2_with fail
              refine bodyPost_ret (v := .tuple #[.slice As k cs, .agg #[.int .i64 0, .int .i64 0]]) (by simp [results, Try.results57, go_sem, r0, r1, hFl]) rfl ?_
              rw [D.out]
              refine ⟨As, k, cs, rr, rfl, gb_set (gb_set GW.out (p := ⟨w.heap.size, 0, none⟩) (Nat.le_refl _) _) (p := ⟨w.heap.size, 1, none⟩) (Nat.le_refl _) _, ⟨Ak, ck, (TK.out.set (p := ⟨w.heap.size, 0, none⟩) II.out (by decide) (by decide) hbs _).set (p := ⟨w.heap.size, 1, none⟩) (II.out.set _ _) (by decide) (by decide) hbs _, FRK.out⟩, ?_, ?_⟩
              · exact own_set (own_set OW.out (p := ⟨w.heap.size, 0, none⟩) II.out (by decide) _) (p := ⟨w.heap.size, 1, none⟩) (II.out.set _ _) (by decide) _
              · exact (RR.out.set (p := ⟨w.heap.size, 0, none⟩) II.out (by decide) hbs _).set (p := ⟨w.heap.size, 1, none⟩) (II.out.set _ _) (by decide) hbs _
end Go.Proofs.Ytlhjfblpinpjiaa

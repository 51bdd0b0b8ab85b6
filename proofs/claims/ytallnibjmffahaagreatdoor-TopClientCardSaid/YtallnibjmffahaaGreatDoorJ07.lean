/- Do. The book: the same rows, the same results. A table behind some operations. Arguments opened: lists of lists of operations. -/
import Derived.Test.YtallnibjmffahaaGreatDoorJ06
import Derived.Test.YtallnibjmffahaaGreatDoorJ01
set_option linter.unusedVariables false
set_option linter.unusedSimpArgs false
namespace Go.Proofs.YtallnibjmffahaaGreatDoor
open Go.RowKit

def Fits (x : OpR) : Prop := x.key.size ≤ 9223372036854775807 ∧ x.val.size ≤ 9223372036854775807

theorem doP_bad {l : List Rw} {ops : List OpR} (h : ops.length < 1 ∨ 32 < ops.length) : doP l ops = ⟨l, [], 0, 80⟩ := by unfold doP; rw [if_pos h]
theorem doP_may {l : List Rw} {ops : List OpR} (h : ¬ (ops.length < 1 ∨ 32 < ops.length)) (h2 : ops.any (fun x => !opOk x) = true) : doP l ops = ⟨l, [], fidx (fun x => !opOk x) ops, 80⟩ := by unfold doP; rw [if_neg h, if_pos h2]

theorem reP_get (l : List Rw) (ops : List OpR) (k : Nat) (hk : k < ops.length) (hr : k < (reP l ops).length) : (reP l ops)[k] = (oneP (stP l (ops.take k)) ops[k]).2 := by
  have h1 := reP_take l ops (k + 1)
  rw [List.take_succ_eq_append_getElem hk, reP_snoc, List.take_succ_eq_append_getElem hr, reP_take] at h1
  have := List.append_cancel_left h1
  injection this with h2 _
  exact h2.symm
theorem doP_fail {l : List Rw} {ops : List OpR} (h : ¬ (ops.length < 1 ∨ 32 < ops.length)) (h2 : ops.any (fun x => !opOk x) = false) (h3 : 1 < ops.length) (k : Nat) (hk : k < ops.length) (hpre : ∀ r ∈ reP l (ops.take k), r.code = 0)
    (hc : (oneP (stP l (ops.take k)) ops[k]).2.code ≠ 0) : doP l ops = ⟨l, [], k, (oneP (stP l (ops.take k)) ops[k]).2.code⟩ := by
  have hr : k < (reP l ops).length := by rw [reP_len]; exact hk
  have hg := reP_get l ops k hk hr
  have hf : failed (reP l ops)[k] = true := by rw [hg]; simpa [failed] using hc
  have hb : ∀ j (hj : j < (reP l ops).length), j < k → failed (reP l ops)[j] = false := by
    intro j hj hjk
    have hm : (reP l ops)[j] ∈ reP l (ops.take k) := by
      rw [reP_take, List.mem_take_iff_getElem]
      exact ⟨j, by omega, rfl⟩
    have := hpre _ hm
    simp [failed, this]
  have hany : (reP l ops).any failed = true := List.any_eq_true.2 ⟨_, List.getElem_mem hr, hf⟩
  have hfi : (reP l ops).findIdx failed = k := by
    rw [List.findIdx_eq hr]
    exact ⟨hf, fun j hj => hb j (by omega) hj⟩
  unfold doP
  rw [if_neg h, if_neg (by rw [h2]; simp), if_pos ⟨h3, hany⟩, fidx_hit failed _ k hr hf hb, hfi]
  congr 1
  rw [List.getD_eq_getElem?_getD, List.getElem?_eq_getElem hr, hg]
  rfl
theorem doP_ok {l : List Rw} {ops : List OpR} (h : ¬ (ops.length < 1 ∨ 32 < ops.length)) (h2 : ops.any (fun x => !opOk x) = false) (h4 : 1 < ops.length → ∀ r ∈ reP l ops, r.code = 0) : doP l ops = ⟨stP l ops, reP l ops, 0, 0⟩ := by
  unfold doP
  rw [if_neg h, if_neg (by rw [h2]; simp), if_neg]
  rintro ⟨h5, h6⟩
  obtain ⟨r, hr, hf⟩ := List.any_eq_true.1 h6
  have := h4 h5 r hr
  simp [failed, this] at hf
theorem opOk_most {x : OpR} (h : opOk x = true) (hk : x.kind = 6) : 1 ≤ x.most ∧ x.most ≤ 100 := by
  unfold opOk at h
  rw [hk] at h
  simp at h
  omega

theorem Rd.new2 {base T : Nat} {w : World} {k n : Nat} {xs : List Value} {cs : Array Value} (o1 : Obj) (hc : cs.toList = xs) (hl : xs.length = n * k) : Rd base T ((w.alloc o1).alloc (.cells cs T)) k (some ⟨w.heap.size + 1, 0, none⟩) n n xs := by
  have := Rd.new_ (base := base) (T := T) (w := w.alloc o1) hc hl
  simpa using this

theorem gb_setg {w W : World} {g : Nat} (h : w.grownBy W (some g)) (u : Value) : w.grownBy (W.setCell ⟨g, 0, none⟩ u) (some g) :=
  ⟨h.os, h.tape, h.output, by simpa [World.setCell] using h.size, fun k hk hne => (Below.heap_setCell W ⟨g, 0, none⟩ u k (by simpa using hne)).trans (h.block k hk hne)⟩
theorem Tab.take {base g c gu cu : Nat} {w : World} {l l' : List Rw} {A Au : Option Addr} (h : Tab base w g l A c) (k : Tab base w gu l' Au cu) : Tab base (w.setCell ⟨g, 0, none⟩ (.slice Au l'.length cu)) g l' Au cu :=
  ⟨by simp [World.setCell, Array.getElem?_modify, h.blk], h.ge, k.rd.setCell (p := ⟨g, 0, none⟩) h.blk (by decide) h.ge _, k.srt, k.big, by simpa [World.setCell] using k.old⟩
theorem RMatch.set {base B : Nat} {w : World} {q : RRes} {r : Res} (h : RMatch base B w q r) {p : Addr} {U : TypeId} (hT : IsT w p.block U) (hU : U ≠ 131) (hge : base ≤ p.block) (u : Value) : RMatch base B (w.setCell p u) q r :=
  ⟨h.code, h.stamp, h.val, h.rd.set hT hU hge u, own_set h.own hT hU u⟩
theorem RMs.set {base B : Nat} {w : World} {rr : List RRes} {rs : List Res} (h : RMs base B w rr rs) {p : Addr} {U : TypeId} (hT : IsT w p.block U) (hU : U ≠ 131) (hge : base ≤ p.block) (u : Value) : RMs base B (w.setCell p u) rr rs :=
  All2.mono (fun _ _ q => q.set hT hU hge u) h

/-- One more result appended: the loop's relation again. -/
theorem Do_round {base no k : Nat} {w w3 w4 : World} {gu : Nat} {l : List Rw} {l' : List Rw} {ops : List OpR} {A A3 : Option Addr} {c3 : Nat} {u8 v4 : Value} {rr : List RRes} {q : RRes} {r : Res} (hbs : base ≤ w.heap.size)
    (hB : Below w.heap.size w w3) (hF : w3.heap[w.heap.size]? = some (.cells #[.int .i64 0, .int .i64 0] 49 (0, 0))) (hT : Tab base w3 gu l' A3 c3) (hO : w3.ownsRow w.heap.size 81 4 u8 k (resCells rr))
    (hR : RMs base w.heap.size w3 rr (reP l (ops.take k))) (hM : RMatch base w.heap.size w3 q r) (o1 o2 : Obj)
    (hG : ((w3.alloc o1).alloc o2).grownBy w4 u8.ownBlock) (hO4 : w4.ownsRow w.heap.size 81 4 v4 (k + 1) (resCells rr ++ resCells [q])) (hs : l' = stP l (ops.take (k + 1))) (hn : reP l (ops.take (k + 1)) = reP l (ops.take k) ++ [r])
    (hC : 1 < no → ∀ x ∈ reP l (ops.take k) ++ [r], x.code = 0) (hfr : Fr w A A3) (hne : NeR A3 (rr ++ [q])) :
    Asd (Below w.heap.size w w4) ∧ Asd (w4.heap[w.heap.size]? = some (.cells #[.int .i64 0, .int .i64 0] 49 (0, 0))) ∧ Asd (∃ Ak ck, Tab base w4 gu (stP l (ops.take (k + 1))) Ak ck ∧ Fr w A Ak ∧ NeR Ak (rr ++ [q])) ∧
      Asd (w4.ownsRow w.heap.size 81 4 v4 (k + 1) (resCells (rr ++ [q]))) ∧ Asd (RMs base w.heap.size w4 (rr ++ [q]) (reP l (ops.take (k + 1)))) ∧ Asd (1 < no → ∀ x ∈ reP l (ops.take (k + 1)), x.code = 0) := by
  have hba : Below w3.heap.size w3 ((w3.alloc o1).alloc o2) := ((Below.refl _ _).alloc (Nat.le_refl _) _).alloc (by simp) _
  have hrow : ∀ j, u8.ownBlock = some j → IsT ((w3.alloc o1).alloc o2) j 81 ∧ w.heap.size ≤ j := fun j hj => own_ist ((hO.alloc _).alloc _) j hj
  have hrow' : ∀ j, u8.ownBlock = some j → IsT ((w3.alloc o1).alloc o2) j 81 ∧ base ≤ j := fun j hj => ⟨(hrow j hj).1, Nat.le_trans hbs (hrow j hj).2⟩
  have hFl : w.heap.size < w3.heap.size := (Array.getElem?_eq_some_iff.1 hF).1
  have hFa : ((w3.alloc o1).alloc o2).heap[w.heap.size]? = some (.cells #[.int .i64 0, .int .i64 0] 49 (0, 0)) := (hba.block _ hFl).trans hF
  subst hs
  refine ⟨⟨(hB.trans (hba.mono hB.size)).grown hG (by have := hB.size; simp; omega) (fun j hj => (hrow j hj).2)⟩, ⟨?_⟩, ⟨A3, c3, (hT.below hba).grownR hG hrow' (by decide) (by decide), hfr, hne⟩, ⟨?_⟩, ⟨?_⟩, ⟨by rw [hn]; exact hC⟩⟩
  · exact (hG.block _ (by simp; omega) (fun e => (IsT.ne (⟨_, _, hFa⟩ : IsT _ _ 49) (hrow _ e.symm).1 (by decide)) rfl)).trans hFa
  · have : resCells (rr ++ [q]) = resCells rr ++ resCells [q] := by simp [resCells]
    rw [this]; exact hO4
  · rw [hn]
    exact All2.snoc ((hR.below hba).grownR hG hrow' (by decide)) ((hM.below hba).grownR hG hrow' (by decide))

set_option maxHeartbeats 8000000 in
set_option maxRecDepth 100000 in
theorem Do_calls2 {base g c : Nat} {w : World} {l : List Rw} {A : Option Addr} (h : Tab base w g l A c) (ops : List OpR) (Ao : Option Addr) (no co : Nat) (ho : Rd base 79 w 6 Ao no co (opCells ops)) (hf : ∀ x ∈ ops, Fits x) :
    Calls Tryz.prog 34 #[.pointer (some ⟨g, 0, none⟩), .slice Ao no co] w (DoPost2 base w A g (doP l ops)) := by
  have hn := ho.count (enc := OpR.enc) (fun _ => rfl) (by omega)
  generalize hp : doP l ops = d
  have P := Asd.mk hp
  clear hp
  have H := Asd.mk h
  have O := Asd.mk ho
  have N := Asd.mk hn
  have F := Asd.mk hf
  have hgl := h.lt
  have hbs : base ≤ w.heap.size := by have := h.ge; omega
  clear h ho hf
  have badf : ∀ (W : World) (a cc : Int), Below w.heap.size w W → d = ⟨l, [], a, cc⟩ → DoPost2 base w A g d (.returned (.tuple #[.slice none 0 0, .agg #[.int .i64 a, .int .i64 cc]])) W := by
    rintro W a cc hB rfl
    exact ⟨none, 0, 0, [], rfl, gb_below hB _, ⟨A, c, H.out.below hB, .inl rfl, NeR.nil _⟩, World.ownsRow_nil _ _ _ _, trivial⟩
  have BAD := Asd.mk badf
  clear badf
  by_cases h1 : no < 1
  · have h1' : (no : Int) < 1 := by omega
    have hd : d = ⟨l, [], 0, 80⟩ := P.out.symm.trans (doP_bad (.inl (by omega)))
    have D := Asd.mk hd
    clear hd hn P h1
    go_enter Tryz.func34, Tryz.ntmps34
    go_wp2_with fail
    refine bodyPost_ret (v := .tuple #[.slice none 0 0, .agg #[.int .i64 0, .int .i64 80]]) (by simp [results, Tryz.results34, go_sem]) rfl ?_
    exact BAD.out _ _ _ (by repeat (first | exact Below.refl _ _ | refine Below.setCell ?_ (by simp) _ | refine Below.alloc ?_ (by simp) _)) D.out
  · by_cases h2 : 32 < no
    · have h1' : ¬ (no : Int) < 1 := by omega
      have h2' : (32 : Int) < (no : Int) := by omega
      have hd : d = ⟨l, [], 0, 80⟩ := P.out.symm.trans (doP_bad (.inr (by omega)))
      have D := Asd.mk hd
      clear hd hn P h1 h2
      go_enter Tryz.func34, Tryz.ntmps34
      go_wp2_with fail
      refine bodyPost_ret (v := .tuple #[.slice none 0 0, .agg #[.int .i64 0, .int .i64 80]]) (by simp [results, Tryz.results34, go_sem]) rfl ?_
      exact BAD.out _ _ _ (by repeat (first | exact Below.refl _ _ | refine Below.setCell ?_ (by simp) _ | refine Below.alloc ?_ (by simp) _)) D.out
    · have h1' : ¬ (no : Int) < 1 := by omega
      have h2' : ¬ (32 : Int) < (no : Int) := by omega
      have hok : ¬ (ops.length < 1 ∨ 32 < ops.length) := by omega
      have OK := Asd.mk hok
      clear hok
      have hidx := fun (W : World) (hB : Below w.heap.size w W) => IndexFunc_op (base := base) (T := 79) (fun x => !opOk x) 56 (enters_of Tryz.func56 (by kernel_rfl) rfl) W Ao no co ops (O.out.below hB) (by omega) (fun W x hx => Do1_calls x (F.out x hx).1 (F.out x hx).2 W)
      have IDX := Asd.mk hidx
      clear hidx
      cases hany : ops.any (fun x => !opOk x) with
      | true =>
        have hd := P.out.symm.trans (doP_may OK.out hany)
        have hge : (0 : Int) ≤ fidx (fun x => !opOk x) ops := by unfold fidx; rw [hany]; simp
        have D := Asd.mk hd
        generalize fidx (fun x => !opOk x) ops = i at hge D IDX
        clear hd hn P h1 h2 hany
        go_enter Tryz.func34, Tryz.ntmps34
        go_wp2_with fail
        refine (IDX.out _ ((Below.refl _ _).alloc (Nat.le_refl _) _)).mono ?_
        rintro e w1 ⟨rfl, hb1⟩
        obtain ⟨hc1, hf1⟩ := bcell hb1
        have hs0 : w.heap.size < w1.heap.size := by have := hb1.size; simp at this; omega
        have BB := Asd.mk (((Below.refl _ _).alloc (Nat.le_refl _) _).trans (hb1.mono (by simp)))
        clear hb1
        go_wp2_with fail
        refine bodyPost_ret (v := .tuple #[.slice none 0 0, .agg #[.int .i64 i, .int .i64 80]]) (by simp [results, Tryz.results34, go_sem, hc1, hs0]) rfl ?_
        exact BAD.out _ _ _ (by repeat (first | exact BB.out | refine Below.setCell ?_ (by simp) _ | refine Below.alloc ?_ (by simp) _)) D.out
      | false =>
        have hmiss : fidx (fun x => !opOk x) ops = -1 := by unfold fidx; rw [hany]; rfl
        rw [hmiss] at IDX
        have ANY := Asd.mk hany
        clear hany hmiss h1 h2
        go_enter Tryz.func34, Tryz.ntmps34
        go_wp2_with fail
        refine (IDX.out _ ((Below.refl _ _).alloc (Nat.le_refl _) _)).mono ?_
        rintro e w1 ⟨rfl, hb1⟩
        have hF1 : w1.heap[w.heap.size]? = some (.cells #[.int .i64 0, .int .i64 0] 49 (0, 0)) := (hb1.block _ (by simp)).trans (heap_alloc_new w _)
        have hB1 := ((Below.refl w.heap.size w).alloc (Nat.le_refl _) (.cells #[.int .i64 0, .int .i64 0] 49)).trans (hb1.mono (by simp))
        have hs0 : w.heap.size < w1.heap.size := by have := hb1.size; simp at this; omega
        have F1 := Asd.mk hF1
        have B1 := Asd.mk hB1
        clear hb1 hF1 hB1
        go_wp2_with fail
        refine (Fork_calls2 (H.out.below B1.out) (by omega)).mono ?_
        rintro e w2 ⟨gu, rfl, hTu, hgu, hb2⟩
        have F2 := Asd.mk ((hb2.block _ hs0).trans F1.out)
        have B2 := Asd.mk (B1.out.trans (hb2.mono (by omega)))
        have TU : Asd (∃ Ak ck, Tab base w2 gu l Ak ck ∧ Fr w A Ak ∧ NeR Ak []) := ⟨A, _, hTu, .inl rfl, NeR.nil _⟩
        clear hTu hb2
        go_wp2_with fail
        go_loopw [8, 31] (fun s8 s31 wr => ∃ (k : Nat) (rr : List RRes), s31 = .int .i64 k ∧ k ≤ no ∧ Asd (Below w.heap.size w wr) ∧ Asd (wr.heap[w.heap.size]? = some (.cells #[.int .i64 0, .int .i64 0] 49 (0, 0))) ∧
          Asd (∃ Ak ck, Tab base wr gu (stP l (ops.take k)) Ak ck ∧ Fr w A Ak ∧ NeR Ak rr) ∧ Asd (wr.ownsRow w.heap.size 81 4 s8 k (resCells rr)) ∧ Asd (RMs base w.heap.size wr rr (reP l (ops.take k))) ∧ Asd (1 < no → ∀ r ∈ reP l (ops.take k), r.code = 0))
          (fun _ s31 _ => no - (intOf s31).toNat)
        case atStart => exact ⟨0, [], rfl, Nat.zero_le _, B2, F2, TU, ⟨World.ownsRow_nil _ _ _ _⟩, ⟨trivial⟩, ⟨fun _ r hr => by cases hr⟩⟩
        case round =>
          obtain ⟨k, rr, rfl, hkn, BW, FW, TW, OW, RW, CW⟩ := hrel
          by_cases hlt : k < no
          · obtain ⟨b, off, rfl, hb, hl, hcs⟩ := (O.out.below BW.out).at_enc (enc := OpR.enc) (fun _ => rfl) (by omega) hlt
            obtain ⟨Ak, ck, hTk, hFrk, hNek⟩ := TW.out
            have FRK := Asd.mk hFrk
            have NEK := Asd.mk hNek
            clear hFrk hNek
            have hmem : ops[k] ∈ ops := List.getElem_mem hl
            have hmay : opOk ops[k] = true := by
              have := List.any_eq_false.1 ANY.out _ hmem
              simpa using this
            have hone := fun (W : World) (hB : Below wr.heap.size wr W) => one_calls (hTk.below hB) ops[k] (F.out _ hmem).2 (fun h6 => opOk_most hmay h6)
            have hsn : stP l (ops.take (k + 1)) = (oneP (stP l (ops.take k)) ops[k]).1 := by rw [List.take_succ_eq_append_getElem hl, stP_snoc]
            have hrn : reP l (ops.take (k + 1)) = reP l (ops.take k) ++ [(oneP (stP l (ops.take k)) ops[k]).2] := by rw [List.take_succ_eq_append_getElem hl, reP_snoc]
            have hfa : (oneP (stP l (ops.take k)) ops[k]).2.code ≠ 0 → 1 < no → d = ⟨l, [], k, (oneP (stP l (ops.take k)) ops[k]).2.code⟩ := fun h1 h2 => P.out.symm.trans (doP_fail OK.out ANY.out (by rw [hn]; exact h2) k hl (CW.out h2) h1)
            generalize hy : ops[k] = y at hcs hone
            have c0 := hcs 0 _ rfl
            have c1 := hcs 1 _ rfl
            have c2 := hcs 2 _ rfl
            have c3 := hcs 3 _ rfl
            have c4 := hcs 4 _ rfl
            have c5 := hcs 5 _ rfl
            rw [Nat.add_zero] at c0
            rw [hy] at hsn hrn hfa
            generalize hp : oneP (stP l (ops.take k)) y = p at hone hsn hrn hfa
            have ONE := Asd.mk hone
            have SN := Asd.mk hsn
            have RN := Asd.mk hrn
            have FA := Asd.mk hfa
            have TK := Asd.mk hTk
            have hgk : gu < wr.heap.size := hTk.lt
            have hwk := BW.out.size
            have hgw : w.heap.size < gu := by omega
            have hFl : w.heap.size < wr.heap.size := by omega
            clear hcs hmay hmem hone hsn hrn hfa hTk hy hp
            obtain ⟨l', code, st, val, rows⟩ := p
            unfold OpR.enc at ONE
            go_wp2_with fail
            refine (ONE.out _ ((Below.refl _ _).alloc (Nat.le_refl _) _)).mono ?_
            rintro e w3 ⟨A1, n1, c1', rfl, hg3, hT3, hr3, ho3⟩
            have hblk : ∀ b, b < wr.heap.size → b ≠ gu → w3.heap[b]? = wr.heap[b]? := fun b hb hne => (hg3.block b (by simp; omega) (by simpa using hne)).trans (Below.heap_alloc _ _ _ hb)
            have hGU : IsT wr gu 77 := ⟨_, _, TK.out.blk⟩
            have hgr : wr.grownBy w3 (some gu) := gb_trans (gb_below ((Below.refl _ _).alloc (Nat.le_refl _) _) _) hg3
            have hO3 := own_grownR OW.out hgr (fun j hj => by injection hj with hj; subst hj; exact hGU) (by decide)
            have hR3 := RW.out.grownR hgr (fun j hj => by injection hj with hj; subst hj; exact ⟨hGU, TK.out.ge⟩) (by decide)
            have hF3 := (hblk w.heap.size hFl (by omega)).trans FW.out
            have hB3 : Below w.heap.size w w3 := BW.out.grown hgr hwk (fun j hj => by injection hj with hj; omega)
            have O3 := Asd.mk hO3
            have R3 := Asd.mk hR3
            have F3 := Asd.mk hF3
            have B3 := Asd.mk hB3
            have T3 : Asd (∃ A3 c3, Tab base w3 gu l' A3 c3 ∧ Fr w A A3 ∧ NeR A3 (rr ++ [⟨code, st, val, A1, n1, c1'⟩])) := by
              obtain ⟨A3, c3, t3, f3, q3⟩ := hT3
              refine ⟨A3, c3, t3, Fr.trans FRK.out (Fr.mono f3 (by simp)) hwk, NeR.step NEK.out f3 q3 (fun p hp a ha => by have := (RMs.lt RW.out p hp a ha).2; simp; omega) (fun a ha => (ho3.lt a.block (by rw [show A1 = some a from ha]; rfl)).1) (fun a ha => by have := TK.out.old a ha; simp; omega)⟩
            have M3 := Asd.mk (⟨rfl, rfl, rfl, hr3, own_le ho3 (by simp; omega)⟩ : RMatch base w.heap.size w3 ⟨code, st, val, A1, n1, c1'⟩ ⟨code, st, val, rows⟩)
            have hF0 : w3.cell? ⟨w.heap.size, 0, none⟩ = some (.int .i64 0) := (cell_of_row w3 _ 0 _ _ _ hF3).trans rfl
            have hF1 : w3.cell? ⟨w.heap.size, 1, none⟩ = some (.int .i64 0) := (cell_of_row w3 _ 1 _ _ _ hF3).trans rfl
            have hFf : ∀ i, w3.frozen? ⟨w.heap.size, i, none⟩ = false := fun i => by simp [World.frozen?, hF3]
            have hs3 : w.heap.size < w3.heap.size := by have := hg3.size; simp at this; omega
            clear hblk hGU hgr hO3 hR3 hF3 hB3 hT3 hr3 ho3 hg3
            unfold Res.raw
            by_cases hc0 : code = 0
            · subst hc0
              go_wp2_with (at_builtin; refine wpList_append_mine (base := base) (own := w.heap.size) (n := k) (xs := resCells rr) (ys := resCells [⟨0, st, val, A1, n1, c1'⟩]) rfl (.tmp 51) (.tmp 53) 47 rfl elt_res rfl rfl ((O3.out.alloc _).alloc _) (Rd.new2 _ rfl rfl) (res_one _) (by simp only [maxLen]; omega) (by omega) (by simp; omega) ?_; intro v4 w4 O4' G4'; have O4 := Asd.mk O4'; have G4 := Asd.mk G4'; clear O4' G4')
              go_roundw
              case measure => simp [intOf]; omega
              case rel =>
                obtain ⟨A3, c3', hT3, hF3', hN3⟩ := T3.out
                refine ⟨k + 1, rr ++ [⟨0, st, val, A1, n1, c1'⟩], by go_num, by omega, Do_round hbs B3.out F3.out hT3 O3.out R3.out M3.out _ _ G4.out O4.out SN.out.symm RN.out (fun h1 r hr => (List.mem_append.1 hr).elim (CW.out h1 r) (fun h => by rw [List.mem_singleton.1 h])) hF3' hN3⟩
            · by_cases hm : 1 < no
              · have hcb : (code == 0) = false := by simpa using hc0
                have hcb' : (code != 0) = true := by simpa using hc0
                have hm' : (1 : Int) < (no : Int) := by omega
                have D := Asd.mk (FA.out hc0 hm)
                clear hm
                go_wp2_with fail
                go_region
                all_goals
                  go_wp2
                  refine bodyPost_ret (v := .tuple #[.slice none 0 0, .agg #[.int .i64 k, .int .i64 code]]) (by simp [results, Tryz.results34, go_sem, hF0, hF1, hFf, hs3]) rfl ?_
                  exact BAD.out _ _ _ (by repeat (first | exact B3.out | refine Below.drew ?_ | refine Below.setCell ?_ (by simp) _ | refine Below.alloc ?_ (by have := B3.out.size; simp [World.setCell]; omega) _)) D.out
              · have hcb : (code == 0) = false := by simpa using hc0
                have hcb' : (code != 0) = true := by simpa using hc0
                have hm' : ¬ (1 : Int) < (no : Int) := by omega
                have HM := Asd.mk hm
                clear hm
                go_wp2_with (at_builtin; refine wpList_append_mine (base := base) (own := w.heap.size) (n := k) (xs := resCells rr) (ys := resCells [⟨code, st, val, A1, n1, c1'⟩]) rfl (.tmp 51) (.tmp 53) 47 rfl elt_res rfl rfl ((O3.out.alloc _).alloc _) (Rd.new2 _ rfl rfl) (res_one _) (by simp only [maxLen]; omega) (by omega) (by simp; omega) ?_; intro v4 w4 O4' G4'; have O4 := Asd.mk O4'; have G4 := Asd.mk G4'; clear O4' G4')
                go_roundw
                case measure => simp [intOf]; omega
                case rel =>
                  obtain ⟨A3, c3', hT3, hF3', hN3⟩ := T3.out
                  refine ⟨k + 1, rr ++ [⟨code, st, val, A1, n1, c1'⟩], by go_num, by omega, Do_round hbs B3.out F3.out hT3 O3.out R3.out M3.out _ _ G4.out O4.out SN.out.symm RN.out (fun h1 => absurd h1 HM.out) hF3' hN3⟩
          · obtain rfl : k = no := by omega
            have htk : ops.take k = ops := List.take_of_length_le (by omega)
            obtain ⟨Ak, ck, hTk, hFrk, hNek⟩ := TW.out
            have FRK := Asd.mk hFrk
            have NEK := Asd.mk hNek
            clear hFrk hNek
            have hR := RW.out
            have hC := CW.out
            rw [htk] at hTk hR hC
            have hd : d = ⟨stP l ops, reP l ops, 0, 0⟩ := P.out.symm.trans (doP_ok OK.out ANY.out (by rw [hn]; exact hC))
            obtain ⟨As, cs, rfl, hRs⟩ := Rd.of_own (base := base) OW.out
            have hTg := H.out.below BW.out
            have hcu := hTk.cell
            have hcg := hTg.cell
            have hfg : wr.frozen? ⟨g, 0, none⟩ = false := by simp [World.frozen?, hTg.blk]
            have hF0 : wr.cell? ⟨w.heap.size, 0, none⟩ = some (.int .i64 0) := (cell_of_row wr _ 0 _ _ _ FW.out).trans rfl
            have hF1 : wr.cell? ⟨w.heap.size, 1, none⟩ = some (.int .i64 0) := (cell_of_row wr _ 1 _ _ _ FW.out).trans rfl
            have hFf : ∀ i, wr.frozen? ⟨w.heap.size, i, none⟩ = false := fun i => by simp [World.frozen?, FW.out]
            have hs3 : w.heap.size < wr.heap.size := (Array.getElem?_eq_some_iff.1 FW.out).1
            have hgn : ¬ w.heap.size = g := by omega
            have hgn' : ¬ g = w.heap.size := by omega
            have TK := Asd.mk hTk
            have TG := Asd.mk hTg
            have RR := Asd.mk hR
            have D := Asd.mk hd
            clear hTk hTg hR hC hd hRs htk hn
            go_wp2_with fail
            refine bodyPost_ret (v := .tuple #[.slice As k cs, .agg #[.int .i64 0, .int .i64 0]]) (by simp [results, Tryz.results34, go_sem, hF0, hF1, hFf, hs3, hgn, hgn', hcg]) rfl ?_
            rw [D.out]
            have hI : IsT wr w.heap.size 49 := ⟨_, _, FW.out⟩
            have hIg : IsT wr g 77 := ⟨_, _, TG.out.blk⟩
            refine ⟨As, k, cs, rr, rfl, gb_set (gb_set (gb_setg (gb_below BW.out _) _) (by simp) _) (by simp) _, ⟨Ak, ck, ?_, FRK.out, NEK.out⟩, ?_, ?_⟩
            · exact ((TG.out.take TK.out).set (p := ⟨w.heap.size, 0, none⟩) (hI.set _ _) (by decide) (by decide) hbs _).set (p := ⟨w.heap.size, 1, none⟩) ((hI.set _ _).set _ _) (by decide) (by decide) hbs _
            · exact own_set (own_set (own_set OW.out (p := ⟨g, 0, none⟩) hIg (by decide) _) (p := ⟨w.heap.size, 0, none⟩) (hI.set _ _) (by decide) _) (p := ⟨w.heap.size, 1, none⟩) ((hI.set _ _).set _ _) (by decide) _
            · exact ((RR.out.set (p := ⟨g, 0, none⟩) hIg (by decide) TG.out.ge _).set (p := ⟨w.heap.size, 0, none⟩) (hI.set _ _) (by decide) hbs _).set (p := ⟨w.heap.size, 1, none⟩) ((hI.set _ _).set _ _) (by decide) hbs _

theorem Do_calls {base g c : Nat} {w : World} {l : List Rw} {A : Option Addr} (h : Tab base w g l A c) (ops : List OpR) (Ao : Option Addr) (no co : Nat) (ho : Rd base 79 w 6 Ao no co (opCells ops)) (hf : ∀ x ∈ ops, Fits x) :
    Calls Tryz.prog 34 #[.pointer (some ⟨g, 0, none⟩), .slice Ao no co] w (DoPost base w g (doP l ops)) :=
  (Do_calls2 h ops Ao no co ho hf).mono fun _ _ ⟨A1, n, c, rr, h1, h2, ⟨A', c', h3, _⟩, h4, h5⟩ => ⟨A1, n, c, rr, h1, h2, ⟨A', c', h3⟩, h4, h5⟩

end Go.Proofs.YtallnibjmffahaaGreatDoor

set_option linter.unusedVariables false
set_option linter.unusedSimpArgs false
namespace Go.Proofs.YtallnibjmffahaaGreatDoor
open Go.RowKit

instance : DecidableEq Rw := fun a b => by
  rcases a with ⟨k, s, v⟩
  rcases b with ⟨k', s', v'⟩
  exact if h : k = k' ∧ s = s' ∧ v = v' then .isTrue (by obtain ⟨rfl, rfl, rfl⟩ := h; rfl) else .isFalse (fun e => h (by injection e with e1 e2 e3; exact ⟨e1, e2, e3⟩))

end Go.Proofs.YtallnibjmffahaaGreatDoor

set_option linter.unusedVariables false
set_option linter.unusedSimpArgs false
namespace Go.Proofs.YtallnibjmffahaaGreatDoor
open Go.RowKit

/-- A slice as it lies in memory. -/
structure RSl where
  A : Option Addr
  n : Nat
  c : Nat
def RSl.enc (q : RSl) : List Value := [.slice q.A q.n q.c]
structure OpsIn (base : Nat) (w : World) (q : RSl) (ops : List OpR) : Prop where
  rd : Rd base 79 w 6 q.A q.n q.c (opCells ops)
  fits : ∀ x ∈ ops, Fits x
theorem OpsIn.below {base : Nat} {w w' : World} {q : RSl} {ops : List OpR} (h : OpsIn base w q ops) (hb : Below w.heap.size w w') : OpsIn base w' q ops := ⟨h.rd.below hb, h.fits⟩
theorem OpsIn.grown {base g : Nat} {w w' : World} {q : RSl} {ops : List OpR} (h : OpsIn base w q ops) (hg : w.grownBy w' (some g)) (hT : IsT w g 77) (hb : base ≤ g) : OpsIn base w' q ops :=
  ⟨h.rd.grownR hg (fun j hj => by injection hj with hj; subst hj; exact ⟨hT, hb⟩) (by decide), h.fits⟩

def playP : List Rw → List (List OpR) → List Rw
  | l, [] => l
  | l, x :: xs => playP (doP l x).rows xs
theorem playP_snoc (l : List Rw) (xs : List (List OpR)) (x : List OpR) : playP l (xs ++ [x]) = (doP (playP l xs) x).rows := by
  induction xs generalizing l with
  | nil => rfl
  | cons y ys ih => exact ih _

end Go.Proofs.YtallnibjmffahaaGreatDoor

set_option linter.unusedVariables false
set_option linter.unusedSimpArgs false
namespace Go.Proofs.YtallnibjmffahaaGreatDoor
open Go.RowKit Go.ChangeShapes Go.WideShapes Go.ChangeAt Go.Deep

theorem all2_of {α β : Type} {R : α → β → Prop} : ∀ (l : List α) (m : List β), l.length = m.length → (∀ i (h1 : i < l.length) (h2 : i < m.length), R l[i] m[i]) → All2 R l m
  | [], [], _, _ => trivial
  | a :: l, b :: m, hl, h => ⟨h 0 (by simp) (by simp), all2_of l m (by simpa using hl) (fun i h1 h2 => h (i + 1) (by simpa using h1) (by simpa using h2))⟩
  | [], _ :: _, hl, _ => by simp at hl
  | _ :: _, [], hl, _ => by simp at hl

section
variable {H : Type} {enc : TypeId × Value → H} {w : World} {base : Nat} {spare : Nat → Bool} {held : Bool}
theorem fields_of {P : Program} {t : TypeId} {fs : Array Field} {fuel : Nat} {cs : List Value} {x : DataW H × List MemPlace} (he : P.underlying t = some (.struct fs)) (hone : oneCellFields P fs = true) (hl : cs.length = fs.size)
    (h : DataW.trod enc P w base spare held fuel t cs = some x) : ∀ (j : Nat) (f : Field), fs[j]? = some f → ∃ (v : Value) (n : Nat) (y : DataW H × List MemPlace), cs[j]? = some v ∧ DataW.trod enc P w base spare held n f.type [v] = some y := by
  intro j f hj
  obtain ⟨ys, n', hn', hy, hlen, hyl, hf⟩ := DataW.trod_struct he h
  obtain ⟨ho, hk⟩ := hone_of hone j f hj
  have hjl : j < fs.size := (Array.getElem?_eq_some_iff.1 hj).1
  have hv : cs[j]? = some (cs[j]'(by omega)) := List.getElem?_eq_getElem (by omega)
  have h1 := hf j f hj
  rw [ho, hk] at h1
  have hone' : (cs.drop j).take 1 = [cs[j]'(by omega)] := by
    rw [List.drop_eq_getElem_cons (by omega)]
    rfl
  rw [hone'] at h1
  have hys : ys[j]? = some (ys[j]'(by omega)) := List.getElem?_eq_getElem (by omega)
  exact ⟨_, _, _, hv, h1.trans hys⟩
set_option maxRecDepth 100000 in
theorem open_op {r : Reach} {b0 : Nat} {v : Value} {d : DataW H} {p : List MemPlace} (hv : Value.okWide Tryz.prog w r b0 79 v) (h : DataW.Trod enc Tryz.prog w base spare held 79 v d p) :
    ∃ x : OpR, v = .agg x.enc.toArray ∧ FitsR x := by
  obtain ⟨cs, rfl, hsz⟩ := okWide_struct Tryz.underlying79 hv
  obtain ⟨l⟩ := cs
  obtain ⟨fuel, hf⟩ := h
  have hl6 : l.length = 6 := hsz.trans (show Tryz.prog.cellsOf 79 = 6 by kernel_rfl)
  have F := fields_of Tryz.underlying79 (by kernel_rfl) (show (Value.agg ⟨l⟩).cells.toList.length = _ from hl6) hf
  match l, hl6 with
  | [c0, c1, c2, c3, c4, c5], _ =>
    obtain ⟨v0, n0, y0, k0, t0⟩ := F 0 _ rfl
    obtain ⟨v1, n1, y1, k1, t1⟩ := F 1 _ rfl
    obtain ⟨v2, n2, y2, k2, t2⟩ := F 2 _ rfl
    obtain ⟨v3, n3, y3, k3, t3⟩ := F 3 _ rfl
    obtain ⟨v4, n4, y4, k4, t4⟩ := F 4 _ rfl
    obtain ⟨v5, n5, y5, k5, t5⟩ := F 5 _ rfl
    injection k0 with k0; injection k1 with k1; injection k2 with k2; injection k3 with k3; injection k4 with k4; injection k5 with k5
    subst k0 k1 k2 k3 k4 k5
    obtain ⟨z0, e0, _, _⟩ := DataW.trod_int (k := .i64) (by kernel_rfl) t0
    obtain ⟨z1, e1, _, f1⟩ := DataW.trod_string (by kernel_rfl) t1
    obtain ⟨z2, e2, _, f2⟩ := DataW.trod_string (by kernel_rfl) t2
    obtain ⟨z3, e3, _, _⟩ := DataW.trod_int (k := .i64) (by kernel_rfl) t3
    obtain ⟨z4, e4, _, _⟩ := DataW.trod_int (k := .i64) (by kernel_rfl) t4
    obtain ⟨z5, e5, _, _⟩ := DataW.trod_int (k := .i64) (by kernel_rfl) t5
    injection e0 with e0 _; injection e1 with e1 _; injection e2 with e2 _; injection e3 with e3 _; injection e4 with e4 _; injection e5 with e5 _
    subst e0 e1 e2 e3 e4 e5
    exact ⟨⟨z0, z1, z2, z3, z4, z5⟩, rfl, by unfold maxLen at f1; omega, by unfold maxLen at f2; omega⟩
end
end Go.Proofs.YtallnibjmffahaaGreatDoor

/- Do. -/
import Derived.Test.YtlhjfblpinpjiaaTb7
import Derived.Test.YtlhjfblpinpjiaaTb8w
set_option linter.unusedVariables false
set_option linter.unusedSimpArgs false
namespace Go.Proofs.Ytlhjfblpinpjiaa
open Go.RowKit

def Fits (x : OpR) : Prop := x.key.size ≤ 9223372036854775807 ∧ x.val.size ≤ 9223372036854775807

theorem doP_bad {l : List Rw} {ops : List OpR} (h : ops.length < 1 ∨ 32 < ops.length) : doP l ops = ⟨l, [], 0, 80⟩ := by unfold doP; rw [if_pos h]
theorem doP_may {l : List Rw} {ops : List OpR} (h : ¬ (ops.length < 1 ∨ 32 < ops.length)) (h2 : ops.any (fun x => !opOk x) = true) : doP l ops = ⟨l, [], fidx (fun x => !opOk x) ops, 80⟩ := by unfold doP; rw [if_neg h, if_pos h2]

theorem reP_get (l : List Rw) (ops : List OpR) (k : Nat) (hk : k < ops.length) (hr : k < (reP l ops).length) : (reP l ops)[k] = (oneP (stP l (ops.take k)) ops[k]).2 := by
  have h1 := reP_take l ops (k + 1)
  rw [List.take_succ_eq_append_getElem hk, reP_snoc, List.take_succ_eq_append_getElem hr, reP_take] at h1
  have := List.append_cancel_left h1
  injection this with h2 _
  exact h2.symm
theorem doP_fail {l : List Rw} {ops : List OpR} (h : ¬ (ops.length < 1 ∨ 32 < ops.length)) (h2 : ops.any (fun x => !opOk x) = false) (h3 : 1 < ops.length) (k : Nat) (hk : k < ops.length) (hpre : ∀ r ∈ reP l (ops.take k), r.code = 0)
    (hc : (oneP (stP l (ops.take k)) ops[k]).2.code ≠ 0) : doP l ops = ⟨l, [], k, (oneP (stP l (ops.take k)) ops[k]).2.code⟩ := by
  have hr : k < (reP l ops).length := by rw [reP_len]; exact hk
  have hg := reP_get l ops k hk hr
  have hf : failed (reP l ops)[k] = true := by rw [hg]; simpa [failed] using hc
  have hb : ∀ j (hj : j < (reP l ops).length), j < k → failed (reP l ops)[j] = false := by
    intro j hj hjk
    have hm : (reP l ops)[j] ∈ reP l (ops.take k) := by
      rw [reP_take, List.mem_take_iff_getElem]
      exact ⟨j, by omega, rfl⟩
    have := hpre _ hm
    simp [failed, this]
  have hany : (reP l ops).any failed = true := List.any_eq_true.2 ⟨_, List.getElem_mem hr, hf⟩
  have hfi : (reP l ops).findIdx failed = k := by
    rw [List.findIdx_eq hr]
    exact ⟨hf, fun j hj => hb j (by omega) hj⟩
  unfold doP
  rw [if_neg h, if_neg (by rw [h2]; simp), if_pos ⟨h3, hany⟩, fidx_hit failed _ k hr hf hb, hfi]
  congr 1
  rw [List.getD_eq_getElem?_getD, List.getElem?_eq_getElem hr, hg]
  rfl
theorem doP_ok {l : List Rw} {ops : List OpR} (h : ¬ (ops.length < 1 ∨ 32 < ops.length)) (h2 : ops.any (fun x => !opOk x) = false) (h4 : 1 < ops.length → ∀ r ∈ reP l ops, r.code = 0) : doP l ops = ⟨stP l ops, reP l ops, 0, 0⟩ := by
  unfold doP
  rw [if_neg h, if_neg (by rw [h2]; simp), if_neg]
  rintro ⟨h5, h6⟩
  obtain ⟨r, hr, hf⟩ := List.any_eq_true.1 h6
  have := h4 h5 r hr
  simp [failed, this] at hf
theorem opOk_most {x : OpR} (h : opOk x = true) (hk : x.kind = 6) : 1 ≤ x.most ∧ x.most ≤ 100 := by
  unfold opOk at h
  rw [hk] at h
  simp at h
  omega

theorem Rd.new2 {base T : Nat} {w : World} {k n : Nat} {xs : List Value} {cs : Array Value} (o1 : Obj) (hc : cs.toList = xs) (hl : xs.length = n * k) : Rd base T ((w.alloc o1).alloc (.cells cs T)) k (some ⟨w.heap.size + 1, 0, none⟩) n n xs := by
  have := Rd.new_ (base := base) (T := T) (w := w.alloc o1) hc hl
  simpa using this

theorem gb_setg {w W : World} {g : Nat} (h : w.grownBy W (some g)) (u : Value) : w.grownBy (W.setCell ⟨g, 0, none⟩ u) (some g) :=
  ⟨h.os, h.tape, h.output, by simpa [World.setCell] using h.size, fun k hk hne => (Below.heap_setCell W ⟨g, 0, none⟩ u k (by simpa using hne)).trans (h.block k hk hne)⟩
theorem Tab.take {base g c gu cu : Nat} {w : World} {l l' : List Rw} {A Au : Option Addr} (h : Tab base w g l A c) (k : Tab base w gu l' Au cu) : Tab base (w.setCell ⟨g, 0, none⟩ (.slice Au l'.length cu)) g l' Au cu :=
  ⟨by simp [World.setCell, Array.getElem?_modify, h.blk], h.ge, k.rd.setCell (p := ⟨g, 0, none⟩) h.blk (by decide) h.ge _, k.srt, k.big, by simpa [World.setCell] using k.old⟩
theorem RMatch.set {base B : Nat} {w : World} {q : RRes} {r : Res} (h : RMatch base B w q r) {p : Addr} {U : TypeId} (hT : IsT w p.block U) (hU : U ≠ 86) (hge : base ≤ p.block) (u : Value) : RMatch base B (w.setCell p u) q r :=
  ⟨h.code, h.stamp, h.val, h.rd.set hT hU hge u, own_set h.own hT hU u⟩
theorem RMs.set {base B : Nat} {w : World} {rr : List RRes} {rs : List Res} (h : RMs base B w rr rs) {p : Addr} {U : TypeId} (hT : IsT w p.block U) (hU : U ≠ 86) (hge : base ≤ p.block) (u : Value) : RMs base B (w.setCell p u) rr rs :=
  All2.mono (fun _ _ q => q.set hT hU hge u) h

/-- One more result appended: the loop's relation again. -/
theorem Do_round {base no k : Nat} {w w3 w4 : World} {gu : Nat} {l : List Rw} {l' : List Rw} {ops : List OpR} {A A3 : Option Addr} {c3 : Nat} {u8 v4 : Value} {rr : List RRes} {q : RRes} {r : Res} (hbs : base ≤ w.heap.size)
    (hB : Below w.heap.size w w3) (hF : w3.heap[w.heap.size]? = some (.cells #[.int .i64 0, .int .i64 0] 35 (0, 0))) (hT : Tab base w3 gu l' A3 c3) (hO : w3.ownsRow w.heap.size 47 4 u8 k (resCells rr))
    (hR : RMs base w.heap.size w3 rr (reP l (ops.take k))) (hM : RMatch base w.heap.size w3 q r) (o1 o2 : Obj)
    (hG : ((w3.alloc o1).alloc o2).grownBy w4 u8.ownBlock) (hO4 : w4.ownsRow w.heap.size 47 4 v4 (k + 1) (resCells rr ++ resCells [q])) (hs : l' = stP l (ops.take (k + 1))) (hn : reP l (ops.take (k + 1)) = reP l (ops.take k) ++ [r])
    (hC : 1 < no → ∀ x ∈ reP l (ops.take k) ++ [r], x.code = 0) (hfr : Fr w A A3) (hne : NeR A3 (rr ++ [q])) :
    Asd (Below w.heap.size w w4) ∧ Asd (w4.heap[w.heap.size]? = some (.cells #[.int .i64 0, .int .i64 0] 35 (0, 0))) ∧ Asd (∃ Ak ck, Tab base w4 gu (stP l (ops.take (k + 1))) Ak ck ∧ Fr w A Ak ∧ NeR Ak (rr ++ [q])) ∧
      Asd (w4.ownsRow w.heap.size 47 4 v4 (k + 1) (resCells (rr ++ [q]))) ∧ Asd (RMs base w.heap.size w4 (rr ++ [q]) (reP l (ops.take (k + 1)))) ∧ Asd (1 < no → ∀ x ∈ reP l (ops.take (k + 1)), x.code = 0) := by
  have hba : Below w3.heap.size w3 ((w3.alloc o1).alloc o2) := ((Below.refl _ _).alloc (Nat.le_refl _) _).alloc (by simp) _
  have hrow : ∀ j, u8.ownBlock = some j → IsT ((w3.alloc o1).alloc o2) j 47 ∧ w.heap.size ≤ j := fun j hj => own_ist ((hO.alloc _).alloc _) j hj
  have hrow' : ∀ j, u8.ownBlock = some j → IsT ((w3.alloc o1).alloc o2) j 47 ∧ base ≤ j := fun j hj => ⟨(hrow j hj).1, Nat.le_trans hbs (hrow j hj).2⟩
  have hFl : w.heap.size < w3.heap.size := (Array.getElem?_eq_some_iff.1 hF).1
  have hFa : ((w3.alloc o1).alloc o2).heap[w.heap.size]? = some (.cells #[.int .i64 0, .int .i64 0] 35 (0, 0)) := (hba.block _ hFl).trans hF
  subst hs
  refine ⟨⟨(hB.trans (hba.mono hB.size)).grown hG (by have := hB.size; simp; omega) (fun j hj => (hrow j hj).2)⟩, ⟨?_⟩, ⟨A3, c3, (hT.below hba).grownR hG hrow' (by decide) (by decide), hfr, hne⟩, ⟨?_⟩, ⟨?_⟩, ⟨by rw [hn]; exact hC⟩⟩
  · exact (hG.block _ (by simp; omega) (fun e => (IsT.ne (⟨_, _, hFa⟩ : IsT _ _ 35) (hrow _ e.symm).1 (by decide)) rfl)).trans hFa
  · have : resCells (rr ++ [q]) = resCells rr ++ resCells [q] := by simp [resCells]
    rw [this]; exact hO4
  · rw [hn]
    exact All2.snoc ((hR.below hba).grownR hG hrow' (by decide)) ((hM.below hba).grownR hG hrow' (by decide))

set_option maxHeartbeats 8000000 in
set_option maxRecDepth 100000 in
theorem Do_calls2 {base g c : Nat} {w : World} {l : List Rw} {A : Option Addr} (h : Tab base w g l A c) (ops : List OpR) (Ao : Option Addr) (no co : Nat) (ho : Rd base 64 w 6 Ao no co (opCells ops)) (hf : ∀ x ∈ ops, Fits x) :
    Calls Try.prog 23 #[.pointer (some ⟨g, 0, none⟩), .slice Ao no co] w (DoPost2 base w A g (doP l ops)) := by
  have hn := ho.count (enc := OpR.enc) (fun _ => rfl) (by omega)
  generalize hp : doP l ops = d
  have P := Asd.mk hp
  clear hp
  have H := Asd.mk h
  have O := Asd.mk ho
  have N := Asd.mk hn
  have F := Asd.mk hf
  have hgl := h.lt
  have hbs : base ≤ w.heap.size := by have := h.ge; omega
  clear h ho hf
  have badf : ∀ (W : World) (a cc : Int), Below w.heap.size w W → d = ⟨l, [], a, cc⟩ → DoPost2 base w A g d (.returned (.tuple #[.slice none 0 0, .agg #[.int .i64 a, .int .i64 cc]])) W := by
    rintro W a cc hB rfl
    exact ⟨none, 0, 0, [], rfl, gb_below hB _, ⟨A, c, H.out.below hB, .inl rfl, NeR.nil _⟩, World.ownsRow_nil _ _ _ _, trivial⟩
  have BAD := Asd.mk badf
  clear badf
  by_cases h1 : no < 1
  · have h1' : (no : Int) < 1 := by omega
    have hd : d = ⟨l, [], 0, 80⟩ := P.out.symm.trans (doP_bad (.inl (by omega)))
    have D := Asd.mk hd
    clear hd hn P h1
    go_enter Try.func23, Try.ntmps23
    go_wp2_with fail
    refine bodyPost_ret (v := .tuple #[.slice none 0 0, .agg #[.int .i64 0, .int .i64 80]]) (by simp [results, Try.results23, go_sem]) rfl ?_
    exact BAD.out _ _ _ (by repeat (first | exact Below.refl _ _ | refine Below.setCell ?_ (by simp) _ | refine Below.alloc ?_ (by simp) _)) D.out
  · by_cases h2 : 32 < no
    · have h1' : ¬ (no : Int) < 1 := by omega
      have h2' : (32 : Int) < (no : Int) := by omega
      have hd : d = ⟨l, [], 0, 80⟩ := P.out.symm.trans (doP_bad (.inr (by omega)))
      have D := Asd.mk hd
      clear hd hn P h1 h2
      go_enter Try.func23, Try.ntmps23
      go_wp2_with fail
      refine bodyPost_ret (v := .tuple #[.slice none 0 0, .agg #[.int .i64 0, .int .i64 80]]) (by simp [results, Try.results23, go_sem]) rfl ?_
      exact BAD.out _ _ _ (by repeat (first | exact Below.refl _ _ | refine Below.setCell ?_ (by simp) _ | refine Below.alloc ?_ (by simp) _)) D.out
    · have h1' : ¬ (no : Int) < 1 := by omega
      have h2' : ¬ (32 : Int) < (no : Int) := by omega
      have hok : ¬ (ops.length < 1 ∨ 32 < ops.length) := by omega
      have OK := Asd.mk hok
      clear hok
      have hidx := fun (W : World) (hB : Below w.heap.size w W) => IndexFunc_op (base := base) (T := 64) (fun x => !opOk x) 40 (enters_of Try.func40 (by kernel_rfl) rfl) W Ao no co ops (O.out.below hB) (by omega) (fun W x hx => Do1_calls x (F.out x hx).1 (F.out x hx).2 W)
      have IDX := Asd.mk hidx
      clear hidx
      cases hany : ops.any (fun x => !opOk x) with
      | true =>
        have hd := P.out.symm.trans (doP_may OK.out hany)
        have hge : (0 : Int) ≤ fidx (fun x => !opOk x) ops := by unfold fidx; rw [hany]; simp
        have D := Asd.mk hd
        generalize fidx (fun x => !opOk x) ops = i at hge D IDX
        clear hd hn P h1 h2 hany
        go_enter Try.func23, Try.ntmps23
        go_wp2_with fail
        refine (IDX.out _ ((Below.refl _ _).alloc (Nat.le_refl _) _)).mono ?_
        rintro e w1 ⟨rfl, hb1⟩
        obtain ⟨hc1, hf1⟩ := bcell hb1
        have hs0 : w.heap.size < w1.heap.size := by have := hb1.size; simp at this; omega
        have BB := Asd.mk (((Below.refl _ _).alloc (Nat.le_refl _) _).trans (hb1.mono (by simp)))
        clear hb1
        go_wp2_with fail
        refine bodyPost_ret (v := .tuple #[.slice none 0 0, .agg #[.int .i64 i, .int .i64 80]]) (by simp [results, Try.results23, go_sem, hc1, hs0]) rfl ?_
        exact BAD.out _ _ _ (by repeat (first | exact BB.out | refine Below.setCell ?_ (by simp) _ | refine Below.alloc ?_ (by simp) _)) D.out
      | false =>
        have hmiss : fidx (fun x => !opOk x) ops = -1 := by unfold fidx; rw [hany]; rfl
        rw [hmiss] at IDX
        have ANY := Asd.mk hany
        clear hany hmiss h1 h2
        go_enter Try.func23, Try.ntmps23
        go_wp2_with fail
        refine (IDX.out _ ((Below.refl _ _).alloc (Nat.le_refl _) _)).mono ?_
        rintro e w1 ⟨rfl, hb1⟩
        have hF1 : w1.heap[w.heap.size]? = some (.cells #[.int .i64 0, .int .i64 0] 35 (0, 0)) := (hb1.block _ (by simp)).trans (heap_alloc_new w _)
        have hB1 := ((Below.refl w.heap.size w).alloc (Nat.le_refl _) (.cells #[.int .i64 0, .int .i64 0] 35)).trans (hb1.mono (by simp))
        have hs0 : w.heap.size < w1.heap.size := by have := hb1.size; simp at this; omega
        have F1 := Asd.mk hF1
        have B1 := Asd.mk hB1
        clear hb1 hF1 hB1
        go_wp2_with fail
        refine (Fork_calls2 (H.out.below B1.out) (by omega)).mono ?_
        rintro e w2 ⟨gu, rfl, hTu, hgu, hb2⟩
        have F2 := Asd.mk ((hb2.block _ hs0).trans F1.out)
        have B2 := Asd.mk (B1.out.trans (hb2.mono (by omega)))
        have TU : Asd (∃ Ak ck, Tab base w2 gu l Ak ck ∧ Fr w A Ak ∧ NeR Ak []) := ⟨A, _, hTu, .inl rfl, NeR.nil _⟩
        clear hTu hb2
        go_wp2_with fail
        go_loopw [8, 31] (fun s8 s31 wr => ∃ (k : Nat) (rr : List RRes), s31 = .int .i64 k ∧ k ≤ no ∧ Asd (Below w.heap.size w wr) ∧ Asd (wr.heap[w.heap.size]? = some (.cells #[.int .i64 0, .int .i64 0] 35 (0, 0))) ∧
          Asd (∃ Ak ck, Tab base wr gu (stP l (ops.take k)) Ak ck ∧ Fr w A Ak ∧ NeR Ak rr) ∧ Asd (wr.ownsRow w.heap.size 47 4 s8 k (resCells rr)) ∧ Asd (RMs base w.heap.size wr rr (reP l (ops.take k))) ∧ Asd (1 < no → ∀ r ∈ reP l (ops.take k), r.code = 0))
          (fun _ s31 _ => no - (intOf s31).toNat)
        case atStart => exact ⟨0, [], rfl, Nat.zero_le _, B2, F2, TU, ⟨World.ownsRow_nil _ _ _ _⟩, ⟨trivial⟩, ⟨fun _ r hr => by cases hr⟩⟩
        case round =>
          obtain ⟨k, rr, rfl, hkn, BW, FW, TW, OW, RW, CW⟩ := hrel
          by_cases hlt : k < no
          · obtain ⟨b, off, rfl, hb, hl, hcs⟩ := (O.out.below BW.out).at_enc (enc := OpR.enc) (fun _ => rfl) (by omega) hlt
            obtain ⟨Ak, ck, hTk, hFrk, hNek⟩ := TW.out
            have FRK := Asd.mk hFrk
            have NEK := Asd.mk hNek
            clear hFrk hNek
            have hmem : ops[k] ∈ ops := List.getElem_mem hl
            have hmay : opOk ops[k] = true := by
              have := List.any_eq_false.1 ANY.out _ hmem
              simpa using this
            have hone := fun (W : World) (hB : Below wr.heap.size wr W) => one_calls (hTk.below hB) ops[k] (F.out _ hmem).2 (fun h6 => opOk_most hmay h6)
            have hsn : stP l (ops.take (k + 1)) = (oneP (stP l (ops.take k)) ops[k]).1 := by rw [List.take_succ_eq_append_getElem hl, stP_snoc]
            have hrn : reP l (ops.take (k + 1)) = reP l (ops.take k) ++ [(oneP (stP l (ops.take k)) ops[k]).2] := by rw [List.take_succ_eq_append_getElem hl, reP_snoc]
            have hfa : (oneP (stP l (ops.take k)) ops[k]).2.code ≠ 0 → 1 < no → d = ⟨l, [], k, (oneP (stP l (ops.take k)) ops[k]).2.code⟩ := fun h1 h2 => P.out.symm.trans (doP_fail OK.out ANY.out (by rw [hn]; exact h2) k hl (CW.out h2) h1)
            generalize hy : ops[k] = y at hcs hone
            have c0 := hcs 0 _ rfl
            have c1 := hcs 1 _ rfl
            have c2 := hcs 2 _ rfl
            have c3 := hcs 3 _ rfl
            have c4 := hcs 4 _ rfl
            have c5 := hcs 5 _ rfl
            rw [Nat.add_zero] at c0
            rw [hy] at hsn hrn hfa
            generalize hp : oneP (stP l (ops.take k)) y = p at hone hsn hrn hfa
            have ONE := Asd.mk hone
            have SN := Asd.mk hsn
            have RN := Asd.mk hrn
            have FA := Asd.mk hfa
            have TK := Asd.mk hTk
            have hgk : gu < wr.heap.size := hTk.lt
            have hwk := BW.out.size
            have hgw : w.heap.size < gu := by omega
            have hFl : w.heap.size < wr.heap.size := by omega
            clear hcs hmay hmem hone hsn hrn hfa hTk hy hp
            obtain ⟨l', code, st, val, rows⟩ := p
            unfold OpR.enc at ONE
            go_wp2_with fail
            refine (ONE.out _ ((Below.refl _ _).alloc (Nat.le_refl _) _)).mono ?_
            rintro e w3 ⟨A1, n1, c1', rfl, hg3, hT3, hr3, ho3⟩
            have hblk : ∀ b, b < wr.heap.size → b ≠ gu → w3.heap[b]? = wr.heap[b]? := fun b hb hne => (hg3.block b (by simp; omega) (by simpa using hne)).trans (Below.heap_alloc _ _ _ hb)
            have hGU : IsT wr gu 88 := ⟨_, _, TK.out.blk⟩
            have hgr : wr.grownBy w3 (some gu) := gb_trans (gb_below ((Below.refl _ _).alloc (Nat.le_refl _) _) _) hg3
            have hO3 := own_grownR OW.out hgr (fun j hj => by injection hj with hj; subst hj; exact hGU) (by decide)
            have hR3 := RW.out.grownR hgr (fun j hj => by injection hj with hj; subst hj; exact ⟨hGU, TK.out.ge⟩) (by decide)
            have hF3 := (hblk w.heap.size hFl (by omega)).trans FW.out
            have hB3 : Below w.heap.size w w3 := BW.out.grown hgr hwk (fun j hj => by injection hj with hj; omega)
            have O3 := Asd.mk hO3
            have R3 := Asd.mk hR3
            have F3 := Asd.mk hF3
            have B3 := Asd.mk hB3
            have T3 : Asd (∃ A3 c3, Tab base w3 gu l' A3 c3 ∧ Fr w A A3 ∧ NeR A3 (rr ++ [⟨code, st, val, A1, n1, c1'⟩])) := by
              obtain ⟨A3, c3, t3, f3, q3⟩ := hT3
              refine ⟨A3, c3, t3, Fr.trans FRK.out (Fr.mono f3 (by simp)) hwk, NeR.step NEK.out f3 q3 (fun p hp a ha => by have := (RMs.lt RW.out p hp a ha).2; simp; omega) (fun a ha => (ho3.lt a.block (by rw [show A1 = some a from ha]; rfl)).1) (fun a ha => by have := TK.out.old a ha; simp; omega)⟩
            have M3 := Asd.mk (⟨rfl, rfl, rfl, hr3, own_le ho3 (by simp; omega)⟩ : RMatch base w.heap.size w3 ⟨code, st, val, A1, n1, c1'⟩ ⟨code, st, val, rows⟩)
            have hF0 : w3.cell? ⟨w.heap.size, 0, none⟩ = some (.int .i64 0) := (cell_of_row w3 _ 0 _ _ _ hF3).trans rfl
            have hF1 : w3.cell? ⟨w.heap.size, 1, none⟩ = some (.int .i64 0) := (cell_of_row w3 _ 1 _ _ _ hF3).trans rfl
            have hFf : ∀ i, w3.frozen? ⟨w.heap.size, i, none⟩ = false := fun i => by simp [World.frozen?, hF3]
            have hs3 : w.heap.size < w3.heap.size := by have := hg3.size; simp at this; omega
            clear hblk hGU hgr hO3 hR3 hF3 hB3 hT3 hr3 ho3 hg3
            unfold Res.raw
            by_cases hc0 : code = 0
            · subst hc0
              go_wp2_with (at_builtin; refine wpList_append_mine (base := base) (own := w.heap.size) (n := k) (xs := resCells rr) (ys := resCells [⟨0, st, val, A1, n1, c1'⟩]) rfl (.tmp 51) (.tmp 53) 40 rfl elt_res rfl rfl ((O3.out.alloc _).alloc _) (Rd.new2 _ rfl rfl) (res_one _) (by simp only [maxLen]; omega) (by omega) (by simp; omega) ?_; intro v4 w4 O4' G4'; have O4 := Asd.mk O4'; have G4 := Asd.mk G4'; clear O4' G4')
              go_roundw
              case measure => simp [intOf]; omega
              case rel =>
                obtain ⟨A3, c3', hT3, hF3', hN3⟩ := T3.out
                refine ⟨k + 1, rr ++ [⟨0, st, val, A1, n1, c1'⟩], by go_num, by omega, Do_round hbs B3.out F3.out hT3 O3.out R3.out M3.out _ _ G4.out O4.out SN.out.symm RN.out (fun h1 r hr => (List.mem_append.1 hr).elim (CW.out h1 r) (fun h => by rw [List.mem_singleton.1 h])) hF3' hN3⟩
            · by_cases hm : 1 < no
              · have hcb : (code == 0) = false := by simpa using hc0
                have hcb' : (code != 0) = true := by simpa using hc0
                have hm' : (1 : Int) < (no : Int) := by omega
                have D := Asd.mk (FA.out hc0 hm)
                clear hm
                go_wp2_with fail
                go_region
                all_goals
                  go_wp2
                  refine bodyPost_ret (v := .tuple #[.slice none 0 0, .agg #[.int .i64 k, .int .i64 code]]) (by simp [results, Try.results23, go_sem, hF0, hF1, hFf, hs3]) rfl ?_
                  exact BAD.out _ _ _ (by repeat (first | exact B3.out | refine Below.drew ?_ | refine Below.setCell ?_ (by simp) _ | refine Below.alloc ?_ (by have := B3.out.size; simp [World.setCell]; omega) _)) D.out
              · have hcb : (code == 0) = false := by simpa using hc0
                have hcb' : (code != 0) = true := by simpa using hc0
                have hm' : ¬ (1 : Int) < (no : Int) := by omega
                have HM := Asd.mk hm
                clear hm
                go_wp2_with (at_builtin; refine wpList_append_mine (base := base) (own := w.heap.size) (n := k) (xs := resCells rr) (ys := resCells [⟨code, st, val, A1, n1, c1'⟩]) rfl (.tmp 51) (.tmp 53) 40 rfl elt_res rfl rfl ((O3.out.alloc _).alloc _) (Rd.new2 _ rfl rfl) (res_one _) (by simp only [maxLen]; omega) (by omega) (by simp; omega) ?_; intro v4 w4 O4' G4'; have O4 := Asd.mk O4'; have G4 := Asd.mk G4'; clear O4' G4')
                go_roundw
                case measure => simp [intOf]; omega
                case rel =>
                  obtain ⟨A3, c3', hT3, hF3', hN3⟩ := T3.out
                  refine ⟨k + 1, rr ++ [⟨code, st, val, A1, n1, c1'⟩], by go_num, by omega, Do_round hbs B3.out F3.out hT3 O3.out R3.out M3.out _ _ G4.out O4.out SN.out.symm RN.out (fun h1 => absurd h1 HM.out) hF3' hN3⟩
          · obtain rfl : k = no := by omega
            have htk : ops.take k = ops := List.take_of_length_le (by omega)
            obtain ⟨Ak, ck, hTk, hFrk, hNek⟩ := TW.out
            have FRK := Asd.mk hFrk
            have NEK := Asd.mk hNek
            clear hFrk hNek
            have hR := RW.out
            have hC := CW.out
            rw [htk] at hTk hR hC
            have hd : d = ⟨stP l ops, reP l ops, 0, 0⟩ := P.out.symm.trans (doP_ok OK.out ANY.out (by rw [hn]; exact hC))
            obtain ⟨As, cs, rfl, hRs⟩ := Rd.of_own (base := base) OW.out
            have hTg := H.out.below BW.out
            have hcu := hTk.cell
            have hcg := hTg.cell
            have hfg : wr.frozen? ⟨g, 0, none⟩ = false := by simp [World.frozen?, hTg.blk]
            have hF0 : wr.cell? ⟨w.heap.size, 0, none⟩ = some (.int .i64 0) := (cell_of_row wr _ 0 _ _ _ FW.out).trans rfl
            have hF1 : wr.cell? ⟨w.heap.size, 1, none⟩ = some (.int .i64 0) := (cell_of_row wr _ 1 _ _ _ FW.out).trans rfl
            have hFf : ∀ i, wr.frozen? ⟨w.heap.size, i, none⟩ = false := fun i => by simp [World.frozen?, FW.out]
            have hs3 : w.heap.size < wr.heap.size := (Array.getElem?_eq_some_iff.1 FW.out).1
            have hgn : ¬ w.heap.size = g := by omega
            have hgn' : ¬ g = w.heap.size := by omega
            have TK := Asd.mk hTk
            have TG := Asd.mk hTg
            have RR := Asd.mk hR
            have D := Asd.mk hd
            clear hTk hTg hR hC hd hRs htk hn
            go_wp2_with fail
            refine bodyPost_ret (v := .tuple #[.slice As k cs, .agg #[.int .i64 0, .int .i64 0]]) (by simp [results, Try.results23, go_sem, hF0, hF1, hFf, hs3, hgn, hgn', hcg]) rfl ?_
            rw [D.out]
            have hI : IsT wr w.heap.size 35 := ⟨_, _, FW.out⟩
            have hIg : IsT wr g 88 := ⟨_, _, TG.out.blk⟩
            refine ⟨As, k, cs, rr, rfl, gb_set (gb_set (gb_setg (gb_below BW.out _) _) (by simp) _) (by simp) _, ⟨Ak, ck, ?_, FRK.out, NEK.out⟩, ?_, ?_⟩
            · exact ((TG.out.take TK.out).set (p := ⟨w.heap.size, 0, none⟩) (hI.set _ _) (by decide) (by decide) hbs _).set (p := ⟨w.heap.size, 1, none⟩) ((hI.set _ _).set _ _) (by decide) (by decide) hbs _
            · exact own_set (own_set (own_set OW.out (p := ⟨g, 0, none⟩) hIg (by decide) _) (p := ⟨w.heap.size, 0, none⟩) (hI.set _ _) (by decide) _) (p := ⟨w.heap.size, 1, none⟩) ((hI.set _ _).set _ _) (by decide) _
            · exact ((RR.out.set (p := ⟨g, 0, none⟩) hIg (by decide) TG.out.ge _).set (p := ⟨w.heap.size, 0, none⟩) (hI.set _ _) (by decide) hbs _).set (p := ⟨w.heap.size, 1, none⟩) ((hI.set _ _).set _ _) (by decide) hbs _

theorem Do_calls {base g c : Nat} {w : World} {l : List Rw} {A : Option Addr} (h : Tab base w g l A c) (ops : List OpR) (Ao : Option Addr) (no co : Nat) (ho : Rd base 64 w 6 Ao no co (opCells ops)) (hf : ∀ x ∈ ops, Fits x) :
    Calls Try.prog 23 #[.pointer (some ⟨g, 0, none⟩), .slice Ao no co] w (DoPost base w g (doP l ops)) :=
  (Do_calls2 h ops Ao no co ho hf).mono fun _ _ ⟨A1, n, c, rr, h1, h2, ⟨A', c', h3, _⟩, h4, h5⟩ => ⟨A1, n, c, rr, h1, h2, ⟨A', c', h3⟩, h4, h5⟩

end Go.Proofs.Ytlhjfblpinpjiaa

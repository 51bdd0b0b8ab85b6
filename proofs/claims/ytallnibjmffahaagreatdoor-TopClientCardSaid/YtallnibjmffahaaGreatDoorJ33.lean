/- TopClient's loop: from behind the letters to the next head. TopClient's loop: small things for the arms of the switch. TopClient's code, by its pieces: regions and blocks by their numbers. TopClient: region 49: a letter is added to those that go up. -/
import Derived.Test.YtallnibjmffahaaGreatDoorJ32
import Derived.Test.YtallnibjmffahaaGreatDoorProg
import Derived.Deep.CutBlock
set_option linter.unusedVariables false
set_option linter.unusedSimpArgs false
namespace Go.Proofs.YtallnibjmffahaaGreatDoor
open Go.RowKit

/-- What holds behind the letters. -/
structure TP (E : Env) (w : World) (i : Nat) (W : World) (v12 v13 : Value) (now : Int) (hs : List CallR) (os : List Int) (ups dns : List ByteArray) (reps : List RepR) (rows : List Rw) (x : CliR) (rq : List OpR) (s : ByteArray) : Prop where
  eo : EnvOk E
  mem : Mem E x rq s reps rows ups dns v12 hs v13 os W
  pi : PI (i + 1) hs os ups dns reps rows
  cp : CPl (i + 1) now hs x rq
  rep : RepIs E.B0 W x hs os
  out : x.oA = none ∧ x.on = 0 ∧ x.oc = 0
  now0 : 0 ≤ now
  now1 : now ≤ (i : Int) + 1
  bw : Below E.B0 w W
section
variable {E : Env} {w W W' : World} {i : Nat} {v12 v13 : Value} {now : Int} {hs : List CallR} {os : List Int} {ups dns : List ByteArray} {reps : List RepR} {rows : List Rw} {x : CliR} {rq : List OpR} {s : ByteArray}
theorem TP.no (h : TP E w i W v12 v13 now hs os ups dns reps rows x rq s) (hb : Below W.heap.size W W') (ht : x.there = false) : HeadS E w (i + 1) v12 v13 (.int .i64 now) W' :=
  ⟨now, hs, os, ups, dns, reps, rows, x, rq, s, rfl, h.now0, by have := h.now1; omega, h.mem.below hb h.eo.le, h.pi, h.cp, ht, h.out.1, h.out.2.1, h.out.2.2, h.bw.trans (hb.mono (Nat.le_trans h.eo.le h.mem.b1))⟩
theorem TP.take (h : TP E w i W v12 v13 now hs os ups dns reps rows x rq s) (hg : W.grownBy W' (some E.g)) (hc : CliAt W' E.g E.k { x with waits := false, there := false }) : Mem E { x with waits := false, there := false } rq s reps rows ups dns v12 hs v13 os W' ∧ Below E.B0 w W' :=
  ⟨h.mem.cli h.eo hg hc (fun e => by cases e), h.bw.trans (h.mem.cliK h.eo hg).below⟩
theorem TP.drop (h : TP E w i W v12 v13 now hs os ups dns reps rows x rq s) (hg : W.grownBy W' (some E.g)) (hc : CliAt W' E.g E.k { x with waits := false, there := false }) {W8 : World} (hb : Below W'.heap.size W' W8) : HeadS E w (i + 1) v12 v13 (.int .i64 now) W8 := by
  obtain ⟨hm, hw⟩ := h.take hg hc
  exact ⟨now, hs, os, ups, dns, reps, rows, { x with waits := false, there := false }, rq, s, rfl, h.now0, by have := h.now1; omega, hm.below hb h.eo.le, h.pi, ⟨h.cp.sent, h.cp.tried, h.cp.now0, h.cp.seq, fun e => by cases e⟩, rfl, h.out.1, h.out.2.1, h.out.2.2, hw.trans (hb.mono (Nat.le_trans h.eo.le hm.b1))⟩
/-- The six cells of a call that is told. -/
def tellW (W : World) (hb k : Nat) (t ps at_ code : Int) (A : Option Addr) (n c : Nat) : World :=
  (((((W.setCell ⟨hb, k * 10 + 1, none⟩ (.int .i64 t)).setCell ⟨hb, k * 10 + 5, none⟩ (.int .i64 7)).setCell ⟨hb, k * 10 + 6, none⟩ (.int .i64 ps)).setCell ⟨hb, k * 10 + 7, none⟩ (.slice A n c)).setCell ⟨hb, k * 10 + 8, none⟩ (.int .i64 at_)).setCell ⟨hb, k * 10 + 9, none⟩ (.int .i64 code)
theorem TP.tell (h : TP E w i W v12 v13 now hs os ups dns reps rows x rq s) (hg : W.grownBy W' (some E.g)) (hc : CliAt W' E.g E.k { x with waits := false, there := false }) {W8 : World} (hb : Below W'.heap.size W' W8) (ht : x.there = true) (hne : x.pcode ≠ 241) {hB hC : Nat} (hv : v12 = .slice (some ⟨hB, 0, none⟩) hs.length hC) :
    HeadS E w (i + 1) v12 v13 (.int .i64 now) (tellW W8 hB (hs.length - 1) ((i : Int) + 1) x.psq x.pat x.pcode x.pA x.pn x.pc) := by
  obtain ⟨hm, hw⟩ := h.take hg hc
  have hm8 := hm.below hb h.eo.le
  obtain ⟨r1, r2, r3, r4⟩ := h.rep ht
  obtain ⟨rs, q1, q2, q3⟩ := r4.resolve_left hne
  have hk := h.mem.cliK h.eo hg
  have k8 : Ko [] false E.B0 W' W8 := Ko.of_below hb (Nat.le_trans h.eo.le hm.b1)
  have q2' := k8.rd (hk.rd q2 rfl (Nat.le_refl _)) rfl (Nat.le_refl _)
  have hn : hs.length - 1 < hs.length := by omega
  subst hv
  have hT := own_isT hm8.mh.own
  have hgb : W8.grownBy (tellW W8 hB (hs.length - 1) ((i : Int) + 1) x.psq x.pat x.pcode x.pA x.pn x.pc) (some hB) := gb_at (gb_at (gb_at (gb_at (gb_at (gb_at (gb_refl W8 (some hB)) _ _) _ _) _ _) _ _) _ _) _ _
  obtain ⟨⟨cs, fr, hcs⟩, hge⟩ := hT
  have k9 : Ko [53] false E.B0 W8 (tellW W8 hB (hs.length - 1) ((i : Int) + 1) x.psq x.pat x.pcode x.pA x.pn x.pc) := Ko.of_gb hgb hcs rfl (Nat.le_trans h.eo.le hge)
  have hl10 : (hs.length - 1) * 10 + 10 ≤ hs.length * 10 := by omega
  have ho := own_put (own_put (own_put (own_put (own_put (own_put hm8.mh.own (j := (hs.length - 1) * 10 + 1) (by omega) (.int .i64 ((i : Int) + 1))) (j := (hs.length - 1) * 10 + 5) (by omega) (.int .i64 7)) (j := (hs.length - 1) * 10 + 6) (by omega) (.int .i64 x.psq)) (j := (hs.length - 1) * 10 + 7) (by omega) (.slice x.pA x.pn x.pc)) (j := (hs.length - 1) * 10 + 8) (by omega) (.int .i64 x.pat)) (j := (hs.length - 1) * 10 + 9) (by omega) (.int .i64 x.pcode)
  rw [h_set hs (hs.length - 1) hn] at ho
  have hpi := h.pi.tell (n := hs.length - 1) hn (y := toldC hs[hs.length - 1] ((i : Int) + 1) x.psq x.pat x.pcode x.pA x.pn x.pc rs) rfl rfl rfl rfl (by show (i : Int) + 1 = ((i + 1 : Nat) : Int); omega) (h.pi.call _ hn).a1 (rs := rs) (by
    have e : ((hs.length - 1 : Nat) : Int) + 1 = x.psq := by rw [r2]; omega
    rw [e]
    exact q1) rfl
  refine ⟨now, hs.set (hs.length - 1) (toldC hs[hs.length - 1] ((i : Int) + 1) x.psq x.pat x.pcode x.pA x.pn x.pc rs), os, ups, dns, reps, rows, { x with waits := false, there := false }, rq, s, rfl, h.now0, by have := h.now1; omega, ⟨hm8.mc.ko k9 rfl rfl (.inl rfl) (Nat.le_refl _), hm8.mbk.ko k9 rfl rfl rfl rfl rfl (Nat.le_refl _), hm8.ml.ko k9 rfl rfl, ⟨?_, fun z hz => ?_⟩, hm8.mo.ko k9 rfl, Nat.le_trans hm8.b1 k9.size⟩, hpi, ⟨h.cp.sent, h.cp.tried, h.cp.now0, by rw [List.length_set]; exact h.cp.seq, fun e => by cases e⟩, rfl, h.out.1, h.out.2.1, h.out.2.2, (hw.trans (hb.mono (Nat.le_trans h.eo.le hm.b1))).trans k9.below⟩
  · rw [List.length_set]
    exact ho
  · rcases List.mem_or_eq_of_mem_set hz with hz | rfl
    · exact k9.call (hm8.mh.ins z hz) rfl rfl rfl (Nat.le_refl _)
    · exact k9.call (toldC_in (hm8.mh.ins _ (List.getElem_mem hn)) q2' q3) rfl rfl rfl (Nat.le_refl _)
theorem tail_pi {outL : List ByteArray} (h : PI (i + 1) hs os ups dns reps rows) (hl : ups.length ≤ 2 * i + 1) (ho : ∀ t ∈ outL, UpOk (hs.map CallR.ops) t) (h1 : outL.length ≤ 1) : PI (i + 1) hs os (ups ++ outL) dns reps rows := by
  match outL, h1, ho with
  | [], _, _ => rw [List.append_nil]; exact h
  | [b], _, ho => exact h.addUp (ho b (by simp)) (by omega)
theorem HeadS.next {E : Env} {i : Nat} {v12 v13 v14 : Value} (h : HeadS E w i v12 v13 v14 W) (hE : E.B0 ≤ E.B1) (hb : Below W.heap.size W W') : HeadS E w i v12 v13 v14 W' := by
  obtain ⟨now, hs, os, ups, dns, reps, rows, x, rq, s, h1, h2, h3, hm, hp, hc, h4, h5, h6, h7, h8⟩ := h
  exact ⟨now, hs, os, ups, dns, reps, rows, x, rq, s, h1, h2, h3, hm.below hb hE, hp, hc, h4, h5, h6, h7, h8.trans (hb.mono (Nat.le_trans hE hm.b1))⟩
end
end Go.Proofs.YtallnibjmffahaaGreatDoor

set_option linter.unusedVariables false
set_option linter.unusedSimpArgs false
namespace Go.Proofs.YtallnibjmffahaaGreatDoor
open Go.RowKit

section
variable {E : Env} {w W W' : World} {i : Nat} {v12 v13 : Value} {now : Int} {hs : List CallR} {os : List Int} {ups dns : List ByteArray} {reps : List RepR} {rows : List Rw} {x : CliR} {rq : List OpR} {s : ByteArray}
/-- The order, behind what the server did. -/
theorem HP.mo1 (h : HP E w i W v12 v13 now hs os ups dns reps rows x rq s) {A : Option Addr} {n c : Nat} {ops : List OpR} {sq at_ code : Int} {rs : List ResS} (hbk : BookAt E.B0 W E.bb E.mb E.depth A n c reps) (hsv : SvN E.B0 E.bb E.mb E.tg E.depth A reps rows ops sq at_ code rs W W') : MO E.B1 v13 os W' ∧ E.B1 ≤ W'.heap.size := by
  obtain ⟨tA, tc, ht⟩ := h.mem.mbk.tab
  have ks := chg_ko hsv.chg hbk ht h.eo.mb0 h.leb
  exact ⟨h.mem.mo.ko ks rfl, Nat.le_trans h.mem.b1 ks.size⟩
theorem HP.ulen (h : HP E w i W v12 v13 now hs os ups dns reps rows x rq s) : ups.length ≤ 1000 := by
  have := h.pi.ul
  have := h.i1
  omega
theorem HP.dlen (h : HP E w i W v12 v13 now hs os ups dns reps rows x rq s) : dns.length ≤ 1000 := by
  have := h.pi.dl
  have := h.i1
  omega
theorem HP.opsOf (h : HP E w i W v12 v13 now hs os ups dns reps rows x rq s) {k : Nat} (hk : k < hs.length) : (hs.map CallR.ops).getD k [] = hs[k].ops := by
  rw [getD_map, List.getD_eq_getElem?_getD, List.getElem?_eq_getElem hk]
  rfl
/-- The server, asked with a letter that is on its way. -/
theorem HP.serveC (h : HP E w i W v12 v13 now hs os ups dns reps rows x rq s) {l : ByteArray} (hl : UpOk (hs.map CallR.ops) l) : ∃ (k : Nat) (A : Option Addr) (n c : Nat), k < hs.length ∧ BookAt E.B0 W E.bb E.mb E.depth A n c reps ∧
    Calls Tryz.prog 12 #[.pointer (some ⟨E.bb, 0, none⟩), .pointer (some ⟨E.tg, 0, none⟩), .string l] W (ServePost E.B0 E.bb E.mb E.tg E.depth A reps rows ((hs.map CallR.ops).getD k []) ((k : Int) + 1) W) := by
  obtain ⟨k, b, h1, h2, h3, h4⟩ := up_read hl
  have hk : k < hs.length := by simpa using h1
  obtain ⟨A, n, c, hb, hn⟩ := h.mem.mbk.book
  obtain ⟨tA, tc, ht⟩ := h.mem.mbk.tab
  refine ⟨k, A, n, c, hk, hb, serve_calls hb ht hn h.leb h.eo.bb0 h.eo.mb0 h.eo.d1 h.eo.d2 h2 h3 h4 ?_ ?_ fun r hr => (h.pi.rep r hr).2⟩
  · rw [h.opsOf hk]
    exact (h.pi.call k hk).many
  · rw [h.pi.rws]
    exact rowsO_ok _ _
/-- The client hears a letter that is on its way. -/
theorem HP.hearC (h : HP E w i W v12 v13 now hs os ups dns reps rows x rq s) {l : ByteArray} (hl : DnOk (hs.map CallR.ops) os l) : Calls Tryz.prog 11 #[.pointer (some ⟨E.g, 0, none⟩), .string l, .int .i64 now] W (fun e w' => e = .returned (.int .i64 0) ∧ MidS E w i v12 v13 (.int .i64 now) w') := by
  obtain ⟨sq, at_, code, rs, body, hR, h1, h2, h3, h4⟩ := dn_read hl
  have hc := Hear_calls (base := E.B0) h.mem.mc.at_ now h.cp.now0.2 (by have := h.now1; have := h.i1; omega) h1 (by rw [h.eo.id]; exact h4) h3 (by rw [h.eo.id]; exact h2) h.leb h.eo.g0
  refine hc.mono ?_
  rintro e w' ⟨rfl, hg, hc' | ⟨hwt, hsq, A, n, c, hc', hr⟩⟩
  · exact ⟨rfl, h.tick1 hg (.inl rfl) hc'⟩
  · have hp := replyOk_parts h4
    have hl32 : rs.length ≤ 32 := by
      unfold replyOk at h4
      simp only [Bool.and_eq_true] at h4
      have h5 := h4.2
      split at h5
      · omega
      · simp only [Bool.and_eq_true, decide_eq_true_eq] at h5
        exact h5.1.1
    exact ⟨rfl, h.hear2 hg hwt hsq hc' hr hR hl32⟩
/-- A letter comes down, in a box that was read. -/
theorem HP.addDn2 (h : HP E w i W v12 v13 now hs os ups dns reps rows x rq s) {t : ByteArray} (ht : DnOk (hs.map CallR.ops) os t) {uA dA : Option Addr} {dc : Nat} {v : Value} {o : Obj} (d1 : W.heap[E.db]? = some (.cells #[.slice dA dns.length dc] 37 (0, 0))) (d2 : W.ownsRow E.B1 9 1 (.slice dA dns.length dc) dns.length (strs dns)) (hu : Box E.B1 E.ub uA ups W) (hne : ∀ a b, uA = some a → dA = some b → a.block ≠ b.block)
    (hO : W'.ownsRow E.B1 9 1 v (dns.length + 1) (strs dns ++ [.string t])) (hG : (W.alloc o).grownBy W' (Value.slice dA dns.length dc).ownBlock) (hat : v.ownBlock = (Value.slice dA dns.length dc).ownBlock ∨ v.ownBlock = some (W.alloc o).heap.size) : MidS E w i v12 v13 (.int .i64 now) (W'.setCell ⟨E.db, 0, none⟩ v) := by
  obtain ⟨hm, ko⟩ := h.mem.addDn h.eo d1 d2 hu hne hO hG hat
  exact h.addDn ht hm ko.below
theorem HP.copyUp2 (h : HP E w i W v12 v13 now hs os ups dns reps rows x rq s) {t : ByteArray} (ht : t ∈ ups) {uA dA : Option Addr} {uc : Nat} {v : Value} {o : Obj} {WX : World} (u1 : W.heap[E.ub]? = some (.cells #[.slice uA ups.length uc] 37 (0, 0))) (u2 : W.ownsRow E.B1 9 1 (.slice uA ups.length uc) ups.length (strs ups)) (hd : Box E.B1 E.db dA dns W) (hne : ∀ a b, uA = some a → dA = some b → a.block ≠ b.block)
    (hO : W'.ownsRow E.B1 9 1 v (ups.length + 1) (strs ups ++ [.string t])) (hG : (W.alloc o).grownBy W' (Value.slice uA ups.length uc).ownBlock) (hat : v.ownBlock = (Value.slice uA ups.length uc).ownBlock ∨ v.ownBlock = some (W.alloc o).heap.size) (hx : Below (W'.setCell ⟨E.ub, 0, none⟩ v).heap.size (W'.setCell ⟨E.ub, 0, none⟩ v) WX) : MidS E w i v12 v13 (.int .i64 now) WX := by
  obtain ⟨hm, ko⟩ := h.mem.addUp h.eo u1 u2 hd hne hO hG hat
  exact h.copyUp ht (hm.below hx h.eo.le) (ko.below.trans (hx.mono (Nat.le_trans h.eo.le hm.b1)))
theorem HP.copyDn2 (h : HP E w i W v12 v13 now hs os ups dns reps rows x rq s) {t : ByteArray} (ht : t ∈ dns) {uA dA : Option Addr} {dc : Nat} {v : Value} {o : Obj} {WX : World} (d1 : W.heap[E.db]? = some (.cells #[.slice dA dns.length dc] 37 (0, 0))) (d2 : W.ownsRow E.B1 9 1 (.slice dA dns.length dc) dns.length (strs dns)) (hu : Box E.B1 E.ub uA ups W) (hne : ∀ a b, uA = some a → dA = some b → a.block ≠ b.block)
    (hO : W'.ownsRow E.B1 9 1 v (dns.length + 1) (strs dns ++ [.string t])) (hG : (W.alloc o).grownBy W' (Value.slice dA dns.length dc).ownBlock) (hat : v.ownBlock = (Value.slice dA dns.length dc).ownBlock ∨ v.ownBlock = some (W.alloc o).heap.size) (hx : Below (W'.setCell ⟨E.db, 0, none⟩ v).heap.size (W'.setCell ⟨E.db, 0, none⟩ v) WX) : MidS E w i v12 v13 (.int .i64 now) WX := by
  obtain ⟨hm, ko⟩ := h.mem.addDn h.eo d1 d2 hu hne hO hG hat
  exact h.copyDn ht (hm.below hx h.eo.le) (ko.below.trans (hx.mono (Nat.le_trans h.eo.le hm.b1)))
end
end Go.Proofs.YtallnibjmffahaaGreatDoor

set_option linter.unusedVariables false
namespace Go.Proofs.YtallnibjmffahaaGreatDoor


/-- The region of a number. -/
def findR (n : Nat) : Code → Option Code
  | .region k ops d => if k = n then some (.region k ops d) else none
  | .seq a b => match findR n a with
    | some c => some c
    | none => findR n b
  | .cond _ a b => match findR n a with
    | some c => some c
    | none => findR n b
  | .block _ c => findR n c
  | .loop c => findR n c
  | .scope c => findR n c
  | _ => none
/-- The block of a number. -/
def findB (n : Nat) : Code → Option Code
  | .seq a b => match findB n a with
    | some c => some c
    | none => findB n b
  | .cond _ a b => match findB n a with
    | some c => some c
    | none => findB n b
  | .block k c => if k = n then some (.block k c) else findB n c
  | .loop c => findB n c
  | .scope c => findB n c
  | _ => none
noncomputable def tcR (n : Nat) : Code := ((Tryz.f3.body.bind (findR n)).getD .skip)
noncomputable def tcB (n : Nat) : Code := ((Tryz.f3.body.bind (findB n)).getD .skip)
end Go.Proofs.YtallnibjmffahaaGreatDoor

set_option linter.unusedVariables false
set_option linter.unusedSimpArgs false
namespace Go.Proofs.YtallnibjmffahaaGreatDoor
open Go.RowKit

set_option maxHeartbeats 8000000 in
set_option maxRecDepth 100000 in
theorem lett49 {Q : Exit → Act → World → Prop} {E : Env} {W : World} {xb uc : Nat} {uA : Option Addr} {UU : List ByteArray} {sb : ByteArray} (hE : EnvOk E) (hb : W.heap[E.ub]? = some (.cells #[.slice uA UU.length uc] 37 (0, 0))) (ho : W.ownsRow E.B1 9 1 (.slice uA UU.length uc) UU.length (strs UU)) (hB : E.B1 ≤ W.heap.size) (hl : UU.length ≤ 1000) (hx : W.cell? ⟨xb, 1, none⟩ = some (.string sb)) (hxb : xb < W.heap.size) {u0 u1 u2 u3 u4 u5 u6 u7 u8 u9 u11 u12 u13 u14 u15 u16 u17 u18 u19 u20 u21 u22 u23 u24 u25 u26 u28 u29 u30 u31 u32 u33 u34 u35 u36 u37 u38 u39 u40 u41 u42 u43 u44 u45 u46 u47 u48 u49 u50 u51 u52 u53 u54 u55 u56 u57 u58 u59 u60 u61 u62 u63 u64 u65 u66 u67 u68 u69 u70 u71 u72 u73 u74 u75 u76 u77 u78 u79 u80 u81 u82 u83 u84 u85 u86 u87 u88 u89 u90 u91 u92 u93 u94 u95 u96 u97 u98 u99 u100 u101 u102 u103 u104 u105 u106 u107 u108 u109 u110 u111 u112 u113 u114 u115 u116 u117 u118 u119 u120 u121 u122 u123 u124 u125 u126 u127 u128 u129 u130 u131 u132 u133 u134 u135 u136 u137 u138 u139 u140 u141 u142 u143 u144 u145 u146 u147 u148 u149 u150 u151 u152 u153 u154 u155 u156 u157 u158 u159 u160 u161 u162 u163 u164 u165 u166 u167 u168 u169 u170 u171 u172 u173 u174 u175 u176 u177 u178 u179 u180 u181 u182 u183 u184 u185 u186 u187 u188 u189 u190 u191 u192 u193 u194 u195 u196 u197 u198 u199 u200 u201 u202 u203 u204 u205 u206 u207 u208 u209 u210 u211 u212 u213 u214 u215 u216 u217 u218 u219 u220 u221 u222 u223 u224 u225 u226 u227 u228 u229 u230 u231 u232 u233 u234 u235 u236 u237 u238 u239 u240 u241 u242 u243 u244 u245 u246 u247 u248 u249 u250 u251 u252 u253 u254 u255 u256 u257 u258 u259 u260 u261 u262 u263 u264 u265 u266 u267 u268 u269 u270 u271 u272 u273 u274 u275 u276 u277 : Value}
    (hK : ∀ (t239 t240 t241 t242 t243 v9 : Value) (W9 : World) (o : Obj), W9.ownsRow E.B1 9 1 v9 (UU.length + 1) (strs UU ++ [.string sb]) → (W.alloc o).grownBy W9 (Value.slice uA UU.length uc).ownBlock → (v9.ownBlock = (Value.slice uA UU.length uc).ownBlock ∨ v9.ownBlock = some (W.alloc o).heap.size) → Q .normal ⟨(u0 :: u1 :: u2 :: u3 :: u4 :: u5 :: u6 :: u7 :: u8 :: u9 :: (.pointer (some ⟨E.ub, 0, none⟩)) :: u11 :: u12 :: u13 :: u14 :: u15 :: u16 :: u17 :: u18 :: u19 :: u20 :: u21 :: u22 :: u23 :: u24 :: u25 :: u26 :: (.pointer (some ⟨xb, 0, none⟩)) :: u28 :: u29 :: u30 :: u31 :: u32 :: u33 :: u34 :: u35 :: u36 :: u37 :: u38 :: u39 :: u40 :: u41 :: u42 :: u43 :: u44 :: u45 :: u46 :: u47 :: u48 :: u49 :: u50 :: u51 :: u52 :: u53 :: u54 :: u55 :: u56 :: u57 :: u58 :: u59 :: u60 :: u61 :: u62 :: u63 :: u64 :: u65 :: u66 :: u67 :: u68 :: u69 :: u70 :: u71 :: u72 :: u73 :: u74 :: u75 :: u76 :: u77 :: u78 :: u79 :: u80 :: u81 :: u82 :: u83 :: u84 :: u85 :: u86 :: u87 :: u88 :: u89 :: u90 :: u91 :: u92 :: u93 :: u94 :: u95 :: u96 :: u97 :: u98 :: u99 :: u100 :: u101 :: u102 :: u103 :: u104 :: u105 :: u106 :: u107 :: u108 :: u109 :: u110 :: u111 :: u112 :: u113 :: u114 :: u115 :: u116 :: u117 :: u118 :: u119 :: u120 :: u121 :: u122 :: u123 :: u124 :: u125 :: u126 :: u127 :: u128 :: u129 :: u130 :: u131 :: u132 :: u133 :: u134 :: u135 :: u136 :: u137 :: u138 :: u139 :: u140 :: u141 :: u142 :: u143 :: u144 :: u145 :: u146 :: u147 :: u148 :: u149 :: u150 :: u151 :: u152 :: u153 :: u154 :: u155 :: u156 :: u157 :: u158 :: u159 :: u160 :: u161 :: u162 :: u163 :: u164 :: u165 :: u166 :: u167 :: u168 :: u169 :: u170 :: u171 :: u172 :: u173 :: u174 :: u175 :: u176 :: u177 :: u178 :: u179 :: u180 :: u181 :: u182 :: u183 :: u184 :: u185 :: u186 :: u187 :: u188 :: u189 :: u190 :: u191 :: u192 :: u193 :: u194 :: u195 :: u196 :: u197 :: u198 :: u199 :: u200 :: u201 :: u202 :: u203 :: u204 :: u205 :: u206 :: u207 :: u208 :: u209 :: u210 :: u211 :: u212 :: u213 :: u214 :: u215 :: u216 :: u217 :: u218 :: u219 :: u220 :: u221 :: u222 :: u223 :: u224 :: u225 :: u226 :: u227 :: u228 :: u229 :: u230 :: u231 :: u232 :: u233 :: u234 :: u235 :: u236 :: u237 :: u238 :: t239 :: t240 :: t241 :: t242 :: t243 :: u244 :: u245 :: u246 :: u247 :: u248 :: u249 :: u250 :: u251 :: u252 :: u253 :: u254 :: u255 :: u256 :: u257 :: u258 :: u259 :: u260 :: u261 :: u262 :: u263 :: u264 :: u265 :: u266 :: u267 :: u268 :: u269 :: u270 :: u271 :: u272 :: u273 :: u274 :: u275 :: u276 :: u277 :: List.nil).toArray, []⟩ (W9.setCell ⟨E.ub, 0, none⟩ v9)) :
    Code.wp Tryz.prog (tcR 49) Q ⟨(u0 :: u1 :: u2 :: u3 :: u4 :: u5 :: u6 :: u7 :: u8 :: u9 :: (.pointer (some ⟨E.ub, 0, none⟩)) :: u11 :: u12 :: u13 :: u14 :: u15 :: u16 :: u17 :: u18 :: u19 :: u20 :: u21 :: u22 :: u23 :: u24 :: u25 :: u26 :: (.pointer (some ⟨xb, 0, none⟩)) :: u28 :: u29 :: u30 :: u31 :: u32 :: u33 :: u34 :: u35 :: u36 :: u37 :: u38 :: u39 :: u40 :: u41 :: u42 :: u43 :: u44 :: u45 :: u46 :: u47 :: u48 :: u49 :: u50 :: u51 :: u52 :: u53 :: u54 :: u55 :: u56 :: u57 :: u58 :: u59 :: u60 :: u61 :: u62 :: u63 :: u64 :: u65 :: u66 :: u67 :: u68 :: u69 :: u70 :: u71 :: u72 :: u73 :: u74 :: u75 :: u76 :: u77 :: u78 :: u79 :: u80 :: u81 :: u82 :: u83 :: u84 :: u85 :: u86 :: u87 :: u88 :: u89 :: u90 :: u91 :: u92 :: u93 :: u94 :: u95 :: u96 :: u97 :: u98 :: u99 :: u100 :: u101 :: u102 :: u103 :: u104 :: u105 :: u106 :: u107 :: u108 :: u109 :: u110 :: u111 :: u112 :: u113 :: u114 :: u115 :: u116 :: u117 :: u118 :: u119 :: u120 :: u121 :: u122 :: u123 :: u124 :: u125 :: u126 :: u127 :: u128 :: u129 :: u130 :: u131 :: u132 :: u133 :: u134 :: u135 :: u136 :: u137 :: u138 :: u139 :: u140 :: u141 :: u142 :: u143 :: u144 :: u145 :: u146 :: u147 :: u148 :: u149 :: u150 :: u151 :: u152 :: u153 :: u154 :: u155 :: u156 :: u157 :: u158 :: u159 :: u160 :: u161 :: u162 :: u163 :: u164 :: u165 :: u166 :: u167 :: u168 :: u169 :: u170 :: u171 :: u172 :: u173 :: u174 :: u175 :: u176 :: u177 :: u178 :: u179 :: u180 :: u181 :: u182 :: u183 :: u184 :: u185 :: u186 :: u187 :: u188 :: u189 :: u190 :: u191 :: u192 :: u193 :: u194 :: u195 :: u196 :: u197 :: u198 :: u199 :: u200 :: u201 :: u202 :: u203 :: u204 :: u205 :: u206 :: u207 :: u208 :: u209 :: u210 :: u211 :: u212 :: u213 :: u214 :: u215 :: u216 :: u217 :: u218 :: u219 :: u220 :: u221 :: u222 :: u223 :: u224 :: u225 :: u226 :: u227 :: u228 :: u229 :: u230 :: u231 :: u232 :: u233 :: u234 :: u235 :: u236 :: u237 :: u238 :: u239 :: u240 :: u241 :: u242 :: u243 :: u244 :: u245 :: u246 :: u247 :: u248 :: u249 :: u250 :: u251 :: u252 :: u253 :: u254 :: u255 :: u256 :: u257 :: u258 :: u259 :: u260 :: u261 :: u262 :: u263 :: u264 :: u265 :: u266 :: u267 :: u268 :: u269 :: u270 :: u271 :: u272 :: u273 :: u274 :: u275 :: u276 :: u277 :: List.nil).toArray, []⟩ W := by
  have HK0 := Asd.mk hK
  clear hK
  have c0 : W.cell? ⟨E.ub, 0, none⟩ = some (.slice uA UU.length uc) := (cell_of_row _ _ 0 _ _ _ hb).trans rfl
  have ubl : E.ub < W.heap.size := (Array.getElem?_eq_some_iff.1 hb).1
  have U1 := Asd.mk hb
  have U2 := Asd.mk ho
  have HE := Asd.mk hE
  clear hb ho hE
  conv => arg 2; whnf
  go_wp2_with (at_builtin; refine wpList_append_mine_at (base := E.B0) (own := E.B1) (v := .slice uA UU.length uc) (n := UU.length) (m := 1) (xs := strs UU) (ys := [.string sb]) rfl (.tmp 239) (.tmp 242) 37 rfl elt_str rfl rfl (U2.out.alloc _) (Rd.new_ rfl rfl) (strs_one [sb]) (by unfold maxLen; omega) (by omega) (by simp; omega) ?_; intro v9 w9 O9' G9' A9'; obtain ⟨zA, zc, rfl, _⟩ := Rd.of_own (base := 0) O9'; have H9' := box_stays U1.out HE.out.ub1 U2.out G9'; have c9 := (cell_of_row _ _ 0 _ _ _ H9').trans rfl; have f9 : w9.frozen? ⟨E.ub, 0, none⟩ = false := (by simp [World.frozen?, H9']); have l9 := (Array.getElem?_eq_some_iff.1 H9').1; have O9 := Asd.mk O9'; have G9 := Asd.mk G9'; have A9 := Asd.mk A9'; clear O9' G9' A9' H9')
  exact HK0.out _ _ _ _ _ _ _ _ O9.out G9.out A9.out
end Go.Proofs.YtallnibjmffahaaGreatDoor

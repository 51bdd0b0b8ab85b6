/- TopClient's loop: from the head to behind the switch, arm by arm. TopClient's loop: letters that are taken out, lost, copied. TopClient's loop: what is heard, what is served. TopClient's loop: a letter is taken out of a list. -/
import Derived.Test.YtallnibjmffahaaGreatDoorJ31
set_option linter.unusedVariables false
set_option linter.unusedSimpArgs false
namespace Go.Proofs.YtallnibjmffahaaGreatDoor
open Go.RowKit

/-- What holds where the switch begins. -/
structure HP (E : Env) (w : World) (i : Nat) (W : World) (v12 v13 : Value) (now : Int) (hs : List CallR) (os : List Int) (ups dns : List ByteArray) (reps : List RepR) (rows : List Rw) (x : CliR) (rq : List OpR) (s : ByteArray) : Prop where
  eo : EnvOk E
  mem : Mem E x rq s reps rows ups dns v12 hs v13 os W
  pi : PI i hs os ups dns reps rows
  cp : CPl i now hs x rq
  there : x.there = false
  out : x.oA = none ∧ x.on = 0 ∧ x.oc = 0
  now0 : 0 ≤ now
  now1 : now ≤ (i : Int)
  i1 : i < 120
  bw : Below E.B0 w W
section
variable {E : Env} {w W W' : World} {i : Nat} {v12 v13 : Value} {now : Int} {hs : List CallR} {os : List Int} {ups dns : List ByteArray} {reps : List RepR} {rows : List Rw} {x : CliR} {rq : List OpR} {s : ByteArray}
theorem HP.xok (h : HP E w i W v12 v13 now hs os ups dns reps rows x rq s) : XOk x := by
  have h1 := h.cp.sent
  have h2 := h.cp.tried
  have h3 := h.now1
  have h4 := h.i1
  exact ⟨⟨h1.1, by omega⟩, ⟨h2.1, by omega⟩, h.cp.now0.1, h.out⟩
theorem HP.leb (h : HP E w i W v12 v13 now hs os ups dns reps rows x rq s) : E.B0 ≤ W.heap.size := Nat.le_trans h.eo.le h.mem.b1
theorem HP.outIs (h : HP E w i W v12 v13 now hs os ups dns reps rows x rq s) {x' : CliR} (e1 : x'.oA = x.oA) (e2 : x'.on = x.on) (e3 : x'.oc = x.oc) (W' : World) : OutIs E.B0 W' x' [] := by
  refine ⟨by rw [e2, h.out.2.1]; rfl, by simp, ?_⟩
  rw [e1, e2, e3, h.out.1, h.out.2.1, h.out.2.2]
  exact Rd.none_
theorem RepIs.no {B0 : Nat} {W : World} {x : CliR} {hs : List CallR} {os : List Int} (h : x.there = false) : RepIs B0 W x hs os := fun ht => by rw [h] at ht; cases ht
theorem HP.tick1 (h : HP E w i W v12 v13 now hs os ups dns reps rows x rq s) (hg : W.grownBy W' (some E.g)) {t : Int} (ht : t = now ∨ t = now + 1) (hc : CliAt W' E.g E.k { x with now := t }) : MidS E w i v12 v13 (.int .i64 t) W' := by
  have hk := h.mem.cliK h.eo hg
  have h0 := h.now0
  have h1 := h.now1
  have h2 := h.cp.sent
  have h3 := h.cp.tried
  have h4 := h.pi.ul
  refine ⟨t, hs, os, ups, dns, reps, rows, { x with now := t }, rq, s, [], rfl, by omega, by omega, h.mem.cli h.eo hg hc (fun hw => ⟨hk.rd (h.mem.mc.req hw).rd rfl (Nat.le_refl _), (h.mem.mc.req hw).fits, (h.mem.mc.req hw).ok, (h.mem.mc.req hw).enc, (h.mem.mc.req hw).small⟩), h.pi.bump, by omega, ⟨⟨h2.1, ?_⟩, ⟨h3.1, ?_⟩, ⟨?_, Int.le_refl _⟩, h.cp.seq, h.cp.req⟩, h.outIs rfl rfl rfl W', fun t ht => by simp at ht, RepIs.no h.there, h.bw.trans hk.below⟩
  · show x.sent ≤ t
    omega
  · show x.tried ≤ ((i + 1 : Nat) : Int)
    omega
  · show 0 ≤ t
    omega
theorem HP.tick2 (h : HP E w i W v12 v13 now hs os ups dns reps rows x rq s) (hg : W.grownBy W' (some E.g)) (hwt : x.waits = true) (hc : CliAt W' E.g E.k (CliR.fail E.k { x with now := now + 1 } 0 241)) : MidS E w i v12 v13 (.int .i64 (now + 1)) W' := by
  have hk := h.mem.cliK h.eo hg
  have h0 := h.now0
  have h1 := h.now1
  have h2 := h.cp.sent
  have h3 := h.cp.tried
  have h4 := h.pi.ul
  refine ⟨now + 1, hs, os, ups, dns, reps, rows, CliR.fail E.k { x with now := now + 1 } 0 241, rq, s, [], rfl, by omega, by omega, h.mem.cli h.eo hg hc (fun hw => by cases hw), h.pi.bump, by omega, ⟨⟨h2.1, ?_⟩, ⟨h3.1, ?_⟩, ⟨?_, Int.le_refl _⟩, h.cp.seq, fun hw => by cases hw⟩, h.outIs rfl rfl rfl W', fun t ht => by simp at ht, fun _ => ⟨(h.cp.req hwt).1, h.cp.seq, ⟨rfl, h.eo.id⟩, .inl rfl⟩, h.bw.trans hk.below⟩
  · show x.sent ≤ now + 1
    omega
  · show x.tried ≤ ((i + 1 : Nat) : Int)
    omega
  · show 0 ≤ now + 1
    omega
theorem HP.tick3 (h : HP E w i W v12 v13 now hs os ups dns reps rows x rq s) (hg : W.grownBy W' (some E.g)) (hwt : x.waits = true) {oA : Option Addr} {oc : Nat} (hc : CliAt W' E.g E.k { x with now := now + 1, oA := oA, on := 1, oc := oc, sent := now + 1, tried := x.tried + 1 }) (ho : Rd E.B0 61 W' 2 oA 1 oc [.int .i64 0, .string (sentB E.k.ver s)]) : MidS E w i v12 v13 (.int .i64 (now + 1)) W' := by
  have hk := h.mem.cliK h.eo hg
  have h0 := h.now0
  have h1 := h.now1
  have h2 := h.cp.sent
  have h3 := h.cp.tried
  have h4 := h.pi.ul
  have hcr := h.cp.req hwt
  have hrq := h.mem.mc.req hwt
  refine ⟨now + 1, hs, os, ups, dns, reps, rows, { x with now := now + 1, oA := oA, on := 1, oc := oc, sent := now + 1, tried := x.tried + 1 }, rq, s, [sentB E.k.ver s], rfl, by omega, by omega, h.mem.cli h.eo hg hc (fun hw => ⟨hk.rd hrq.rd rfl (Nat.le_refl _), hrq.fits, hrq.ok, hrq.enc, hrq.small⟩), h.pi.bump, by omega, ⟨⟨?_, Int.le_refl _⟩, ⟨?_, ?_⟩, ⟨?_, Int.le_refl _⟩, h.cp.seq, fun _ => hcr⟩, ⟨rfl, by simp, ho⟩, fun t ht => ?_, RepIs.no h.there, h.bw.trans hk.below⟩
  · show 0 ≤ now + 1
    omega
  · show 0 ≤ x.tried + 1
    omega
  · show x.tried + 1 ≤ ((i + 1 : Nat) : Int)
    omega
  · show 0 ≤ now + 1
    omega
  · obtain rfl := List.mem_singleton.1 ht
    rw [h.eo.ver]
    refine UpOk.of_req hcr.1 (by simp) hcr.2.1 ?_ hrq.small
    have h9 := hrq.enc
    rw [hcr.2.2.1, hcr.2.2.2] at h9
    exact h9
/-- A new call of the history. -/
def newC (i : Nat) (sq : Int) (A : Option Addr) (n c : Nat) (ops : List OpR) : CallR := ⟨(i : Int) + 1, 0, 7, sq, A, n, c, 0, 0, none, 0, 0, 0, 0, ops, [], []⟩
theorem HP.ask2 (h : HP E w i W v12 v13 now hs os ups dns reps rows x rq s) (hg : W.grownBy W' (some E.g)) {ops : List OpR} {n : Nat} {rA : Option Addr} {rc : Nat} {oA : Option Addr} {oc : Nat} {s' : ByteArray} (hq : reqOk E.k.id (x.seq + 1) ops = true) (hm : ops.any isMany = false) (he : oencP E.k.id (x.seq + 1) ops = (s', 0)) (hs' : s'.size ≤ 60000)
    (hc : CliAt W' E.g E.k { x with now := now, seq := x.seq + 1, rcl := E.k.id, rsq := x.seq + 1, rA := rA, rn := n, rc := rc, waits := true, there := false, oA := oA, on := 1, oc := oc, sent := now, tried := 1 }) (hr : Rd E.B0 79 W' 6 rA n rc (opCells ops)) (hf : ∀ y ∈ ops, Fits y) (ho : Rd E.B0 61 W' 2 oA 1 oc [.int .i64 0, .string (sentB E.k.ver s')])
    {W8 W9 : World} (hb8 : Below W'.heap.size W' W8) {A8 : Option Addr} {c8 : Nat} (hr8 : Rd E.B0 79 W8 6 A8 n c8 (opCells ops)) (hn : n ≤ 140737488355328) {v' : Value} {o : Obj} (hO : W9.ownsRow E.B1 53 10 v' (hs.length + 1) (hs.flatMap CallR.enc ++ (newC i (x.seq + 1) A8 n c8 ops).enc)) (hG : (W8.alloc o).grownBy W9 v12.ownBlock) : MidS E w i v' v13 (.int .i64 now) W9 := by
  have hk := h.mem.cliK h.eo hg
  have h0 := h.now0
  have h1 := h.now1
  have h4 := h.pi.ul
  have hln := h.pi.len
  rw [h.eo.id, h.cp.seq] at hq he
  have hM7 : Mem E { x with now := now, seq := x.seq + 1, rcl := E.k.id, rsq := x.seq + 1, rA := rA, rn := n, rc := rc, waits := true, there := false, oA := oA, on := 1, oc := oc, sent := now, tried := 1 } ops s' reps rows ups dns v12 hs v13 os W' :=
    h.mem.cli h.eo hg hc (fun _ => ⟨hr, hf, by show reqOk E.k.id (x.seq + 1) ops = true; rw [h.eo.id, h.cp.seq]; exact hq, by show oencP E.k.id (x.seq + 1) ops = (s', 0); rw [h.eo.id, h.cp.seq]; exact he, hs'⟩)
  have hM8 := hM7.below hb8 h.eo.le
  have k9 : Ko [53] false E.B1 W8 W9 := own_ko hM8.mh.own hG hM8.b1
  have k9' : Ko [53] false E.B0 W8 W9 := k9.mono (fun o h => h) h.eo.le
  have k8 : Ko [] false E.B0 W' W8 := Ko.of_below hb8 (Nat.le_trans h.eo.le hM7.b1)
  have hnc : CallIn E.B0 W8 (newC i (x.seq + 1) A8 n c8 ops) := ⟨hr8, hf, hn, Rd.none_, trivial, by show 0 ≤ 140737488355328; omega⟩
  refine ⟨now, hs ++ [newC i (x.seq + 1) A8 n c8 ops], os, ups, dns, reps, rows, _, ops, s', [sentB E.k.ver s'], rfl, h0, by omega, ⟨hM8.mc.ko k9' rfl rfl (.inl rfl) (Nat.le_refl _), hM8.mbk.ko k9' rfl rfl rfl rfl rfl (Nat.le_refl _), hM8.ml.ko k9' rfl rfl, ⟨?_, fun z hz => ?_⟩, hM8.mo.ko k9' rfl, Nat.le_trans hM8.b1 k9.size⟩, ?_, by omega, ⟨⟨h0, Int.le_refl _⟩, ⟨(show (0 : Int) ≤ 1 by decide), by show (1 : Int) ≤ ((i + 1 : Nat) : Int); omega⟩, ⟨h0, Int.le_refl _⟩, ?_, fun _ => ⟨by simp, ?_, ?_, h.eo.id⟩⟩, ⟨rfl, by simp, ?_⟩, fun t ht => ?_, RepIs.no rfl, ?_⟩
  · rw [List.length_append, List.flatMap_append]
    simpa using hO
  · rcases List.mem_append.1 hz with hz | hz
    · exact k9'.call (hM8.mh.ins z hz) rfl rfl rfl (Nat.le_refl _)
    · obtain rfl := List.mem_singleton.1 hz
      exact k9'.call hnc rfl rfl rfl (Nat.le_refl _)
  · refine h.pi.ask ⟨rfl, ?_, ?_, hm, ?_, ?_, .inl rfl⟩ rfl rfl
    · show x.seq + 1 = _
      rw [h.cp.seq]
    · exact hq
    · show (1 : Int) ≤ (i : Int) + 1
      omega
    · show (i : Int) + 1 ≤ ((i + 1 : Nat) : Int)
      omega
  · show x.seq + 1 = _
    rw [h.cp.seq]
    simp
  · simp [newC]
  · show x.seq + 1 = _
    rw [h.cp.seq]
    simp
  · exact k9'.rd (k8.rd ho rfl (Nat.le_refl _)) rfl (Nat.le_refl _)
  · obtain rfl := List.mem_singleton.1 ht
    rw [h.eo.ver]
    exact UpOk.of_req (m := hs.length + 1) (rq := ops) (by omega) (by simp) (by simp [newC]) (by rw [← he]; congr 1) hs'
  · exact (h.bw.trans hk.below).trans ((hb8.mono (Nat.le_trans h.eo.le hM7.b1)).trans k9'.below)
end
end Go.Proofs.YtallnibjmffahaaGreatDoor

set_option linter.unusedVariables false
set_option linter.unusedSimpArgs false
namespace Go.Proofs.YtallnibjmffahaaGreatDoor
open Go.RowKit

theorem Box.new {lo B1 b b2 : Nat} {A2 : Option Addr} {cs : Array Value} {l' l2 : List ByteArray} {W W' : World} {v : Value} (h1 : W.heap[b]? = some (.cells cs 37 (0, 0))) (hcs : cs.size = 1) (h2 : Box B1 b2 A2 l2 W) (hne : b ≠ b2) (hlo : lo ≤ b) (hbl : b < B1) (hB : B1 ≤ W.heap.size) (hb : Below W.heap.size W W') (hO : W'.ownsRow W.heap.size 9 1 v l'.length (strs l')) :
    ∃ A' c', v = .slice A' l'.length c' ∧ Box B1 b A' l' (W'.setCell ⟨b, 0, none⟩ v) ∧ Box B1 b2 A2 l2 (W'.setCell ⟨b, 0, none⟩ v) ∧ (∀ a d, A' = some a → A2 = some d → a.block ≠ d.block) ∧ Ko [37] false lo W (W'.setCell ⟨b, 0, none⟩ v) := by
  obtain ⟨A', c', rfl, _⟩ := Rd.of_own (base := 0) hO
  have hbW := (Array.getElem?_eq_some_iff.1 h1).1
  have hb' := (hb.block b hbW).trans h1
  obtain ⟨c2, g1, g2⟩ := h2.blk
  have g1' := (hb.block b2 (Array.getElem?_eq_some_iff.1 g1).1).trans g1
  have g2' : W'.ownsRow B1 9 1 (.slice A2 l2.length c2) l2.length (strs l2) := g2.kept (gb_below hb none) (by cases (Value.slice A2 l2.length c2).ownBlock <;> simp)
  have set1 : ∀ {B : Nat} {v' : Value} {n : Nat} {xs : List Value}, W'.ownsRow B 9 1 v' n xs → (W'.setCell ⟨b, 0, none⟩ (.slice A' l'.length c')).ownsRow B 9 1 v' n xs := fun h => h.kept (gb_cell' _ _ _ _) (.inr fun e => by
    obtain ⟨⟨cs', fr, hc⟩, _⟩ := own_istM h b e
    rw [hb'] at hc
    injection hc with hc
    injection hc with _ hc
    exact absurd hc (by decide))
  refine ⟨A', c', rfl, ⟨c', ?_, own_le (set1 hO) hB⟩, ⟨c2, (Below.heap_setCell W' ⟨b, 0, none⟩ _ b2 (fun e => hne e.symm)).trans g1', set1 g2'⟩, ?_, (Ko.of_below hb (by omega)).trans (Ko.of_gb (gb_cell' _ _ _ _) hb' rfl hlo)⟩
  · simp only [World.setCell, Array.getElem?_modify, hb', if_true, Option.map_some]
    have : cs.setIfInBounds 0 (.slice A' l'.length c') = #[.slice A' l'.length c'] := by
      apply Array.ext
      · simp [hcs]
      · intro j h3 h4
        have : j = 0 := by simp at h4; omega
        subst this
        simp
    simp [this]
  · intro a d ha hd e
    subst ha hd
    have x1 := (own_istM hO a.block rfl).2
    obtain ⟨⟨cs', fr, hc⟩, _⟩ := own_istM g2 d.block rfl
    have := (Array.getElem?_eq_some_iff.1 hc).1
    omega
section
variable {E : Env} {w W W' : World} {i : Nat} {v12 v13 : Value} {now : Int} {hs : List CallR} {os : List Int} {ups dns : List ByteArray} {reps : List RepR} {rows : List Rw} {x : CliR} {rq : List OpR} {s : ByteArray}
theorem Mem.setUp (h : Mem E x rq s reps rows ups dns v12 hs v13 os W) (hE : EnvOk E) {v : Value} {l' : List ByteArray} (hb : Below W.heap.size W W') (hO : W'.ownsRow W.heap.size 9 1 v l'.length (strs l')) : Mem E x rq s reps rows l' dns v12 hs v13 os (W'.setCell ⟨E.ub, 0, none⟩ v) ∧ Ko [37] false E.B0 W (W'.setCell ⟨E.ub, 0, none⟩ v) := by
  obtain ⟨uA, dA, ⟨uc, u1, u2⟩, hd, hne⟩ := h.ml.ex
  obtain ⟨A', c', rfl, b1, b2, b3, k⟩ := Box.new (lo := E.B0) u1 rfl hd hE.ne hE.ub0 hE.ub1 h.b1 hb hO
  exact ⟨⟨h.mc.ko k rfl rfl (.inl rfl) (Nat.le_refl _), h.mbk.ko k rfl rfl rfl rfl rfl (Nat.le_refl _), ⟨A', dA, b1, b2, b3⟩, h.mh.ko k rfl rfl rfl rfl (Nat.le_refl _), h.mo.ko k rfl, Nat.le_trans h.b1 k.size⟩, k⟩
theorem Mem.setDn (h : Mem E x rq s reps rows ups dns v12 hs v13 os W) (hE : EnvOk E) {v : Value} {l' : List ByteArray} (hb : Below W.heap.size W W') (hO : W'.ownsRow W.heap.size 9 1 v l'.length (strs l')) : Mem E x rq s reps rows ups l' v12 hs v13 os (W'.setCell ⟨E.db, 0, none⟩ v) ∧ Ko [37] false E.B0 W (W'.setCell ⟨E.db, 0, none⟩ v) := by
  obtain ⟨uA, dA, hu, ⟨dc, d1, d2⟩, hne⟩ := h.ml.ex
  obtain ⟨A', c', rfl, b1, b2, b3, k⟩ := Box.new (lo := E.B0) d1 rfl hu (fun e => hE.ne e.symm) hE.db0 hE.db1 h.b1 hb hO
  exact ⟨⟨h.mc.ko k rfl rfl (.inl rfl) (Nat.le_refl _), h.mbk.ko k rfl rfl rfl rfl rfl (Nat.le_refl _), ⟨uA, A', b2, b1, fun a b ha hb e => b3 b a hb ha e.symm⟩, h.mh.ko k rfl rfl rfl rfl (Nat.le_refl _), h.mo.ko k rfl, Nat.le_trans h.b1 k.size⟩, k⟩
/-- The state with other letters. -/
theorem HP.to (h : HP E w i W v12 v13 now hs os ups dns reps rows x rq s) {ups' dns' : List ByteArray} (hm : Mem E x rq s reps rows ups' dns' v12 hs v13 os W') (hb : Below E.B0 W W') (hp : PI i hs os ups' dns' reps rows) : HP E w i W' v12 v13 now hs os ups' dns' reps rows x rq s :=
  ⟨h.eo, hm, hp, h.cp, h.there, h.out, h.now0, h.now1, h.i1, h.bw.trans hb⟩
theorem HP.skip (h : HP E w i W v12 v13 now hs os ups dns reps rows x rq s) (hb : Below W.heap.size W W') : MidS E w i v12 v13 (.int .i64 now) W' := by
  have h1 := h.now1
  have h3 := h.cp.tried
  have h4 := h.pi.ul
  refine ⟨now, hs, os, ups, dns, reps, rows, x, rq, s, [], rfl, h.now0, by omega, h.mem.below hb h.eo.le, h.pi.bump, by omega, ⟨h.cp.sent, ⟨h3.1, ?_⟩, h.cp.now0, h.cp.seq, h.cp.req⟩, h.outIs rfl rfl rfl W', fun t ht => by simp at ht, RepIs.no h.there, h.bw.trans (hb.mono h.leb)⟩
  show x.tried ≤ ((i + 1 : Nat) : Int)
  omega
/-- A copy: one letter more, of the bump. -/
theorem HP.copyUp (h : HP E w i W v12 v13 now hs os ups dns reps rows x rq s) {t : ByteArray} (ht : t ∈ ups) (hm : Mem E x rq s reps rows (ups ++ [t]) dns v12 hs v13 os W') (hb : Below E.B0 W W') : MidS E w i v12 v13 (.int .i64 now) W' := by
  have h1 := h.now1
  have h3 := h.cp.tried
  have h4 := h.pi.ul
  refine ⟨now, hs, os, ups ++ [t], dns, reps, rows, x, rq, s, [], rfl, h.now0, by omega, hm, h.pi.bump.addUp (h.pi.up t ht) (by omega), by simp; omega, ⟨h.cp.sent, ⟨h3.1, ?_⟩, h.cp.now0, h.cp.seq, h.cp.req⟩, h.outIs rfl rfl rfl W', fun t ht => by simp at ht, RepIs.no h.there, h.bw.trans hb⟩
  show x.tried ≤ ((i + 1 : Nat) : Int)
  omega
theorem HP.copyDn (h : HP E w i W v12 v13 now hs os ups dns reps rows x rq s) {t : ByteArray} (ht : t ∈ dns) (hm : Mem E x rq s reps rows ups (dns ++ [t]) v12 hs v13 os W') (hb : Below E.B0 W W') : MidS E w i v12 v13 (.int .i64 now) W' := by
  have h1 := h.now1
  have h3 := h.cp.tried
  have h4 := h.pi.ul
  have h5 := h.pi.dl
  refine ⟨now, hs, os, ups, dns ++ [t], reps, rows, x, rq, s, [], rfl, h.now0, by omega, hm, h.pi.bump.addDn (h.pi.dn t ht) (by omega), by omega, ⟨h.cp.sent, ⟨h3.1, ?_⟩, h.cp.now0, h.cp.seq, h.cp.req⟩, h.outIs rfl rfl rfl W', fun t ht => by simp at ht, RepIs.no h.there, h.bw.trans hb⟩
  show x.tried ≤ ((i + 1 : Nat) : Int)
  omega
/-- A list without its k-th. -/
def cutL (l : List ByteArray) (k : Nat) : List ByteArray := l.take k ++ l.drop (k + 1)
theorem cutL_mem {l : List ByteArray} {k : Nat} : ∀ t ∈ cutL l k, t ∈ l := by
  intro t ht
  rcases List.mem_append.1 ht with ht | ht
  · exact List.mem_of_mem_take ht
  · exact List.mem_of_mem_drop ht
theorem cutL_len {l : List ByteArray} {k : Nat} (hk : k < l.length) : (cutL l k).length + 1 = l.length := by
  unfold cutL
  rw [List.length_append, List.length_take, List.length_drop]
  omega
theorem HP.loseUp (h : HP E w i W v12 v13 now hs os ups dns reps rows x rq s) {k : Nat} (hk : k < ups.length) (hm : Mem E x rq s reps rows (cutL ups k) dns v12 hs v13 os W') (hb : Below E.B0 W W') : HP E w i W' v12 v13 now hs os (cutL ups k) dns reps rows x rq s :=
  h.to hm hb (h.pi.sub cutL_mem (fun t ht => ht) (by have := h.pi.ul; have := cutL_len hk; omega) h.pi.dl)
theorem HP.loseDn (h : HP E w i W v12 v13 now hs os ups dns reps rows x rq s) {k : Nat} (hk : k < dns.length) (hm : Mem E x rq s reps rows ups (cutL dns k) v12 hs v13 os W') (hb : Below E.B0 W W') : HP E w i W' v12 v13 now hs os ups (cutL dns k) reps rows x rq s :=
  h.to hm hb (h.pi.sub (fun t ht => ht) cutL_mem h.pi.ul (by have := h.pi.dl; have := cutL_len hk; omega))
end
end Go.Proofs.YtallnibjmffahaaGreatDoor

set_option linter.unusedVariables false
set_option linter.unusedSimpArgs false
namespace Go.Proofs.YtallnibjmffahaaGreatDoor
open Go.RowKit

theorem chg_ko {B0 bb mb tg depth n c tc : Nat} {A tA : Option Addr} {reps : List RepR} {rows : List Rw} {W W' : World} (hc : Chg (fun b => NoteP mb A b ∨ b = tg) W W') (hbk : BookAt B0 W bb mb depth A n c reps) (ht : Tab B0 W tg rows tA tc) (hmb : B0 ≤ mb) (hB : B0 ≤ W.heap.size) : Ko [51, 77] true B0 W W' := by
  have hA : ∀ a, A = some a → B0 ≤ a.block ∧ ∃ cs, W.heap[a.block]? = some (.cells cs 51 (0, 0)) := by
    intro a ha
    rcases hbk.mid.row with e | ⟨g, off, cur, e, hge, hg, _⟩
    · rw [e] at ha
      cases ha
    · rw [e] at ha
      injection ha with ha
      subst ha
      exact ⟨hge, cur, hg⟩
  refine ⟨hc.below hB (fun b hb hp => ?_), fun b o hb ho => ?_⟩
  · rcases hp with (rfl | ⟨a, ha, rfl⟩) | rfl
    · omega
    · have := (hA a ha).1
      omega
    · have := ht.ge
      omega
  · rw [hc.block b (Array.getElem?_eq_some_iff.1 hb).1 (fun hp => ?_)]
    · exact hb
    · rcases hp with (rfl | ⟨a, ha, rfl⟩) | rfl
      · obtain ⟨es, clock, hm, _⟩ := hbk.map
        rw [hm] at hb
        injection hb with hb
        subst hb
        cases ho
      · obtain ⟨_, cs, hcs⟩ := hA a ha
        rw [hcs] at hb
        injection hb with hb
        subst hb
        cases ho
      · have h := ht.blk
        rw [h] at hb
        injection hb with hb
        subst hb
        cases ho
section
variable {E : Env} {w W W' : World} {i : Nat} {v12 v13 : Value} {now : Int} {hs : List CallR} {os : List Int} {ups dns : List ByteArray} {reps : List RepR} {rows : List Rw} {x : CliR} {rq : List OpR} {s : ByteArray}
theorem HP.hear2 (h : HP E w i W v12 v13 now hs os ups dns reps rows x rq s) (hg : W.grownBy W' (some E.g)) (hwt : x.waits = true) {sq at_ code : Int} {A : Option Addr} {n c : Nat} {rs : List ResS} (hsq : sq = x.seq) (hc : CliAt W' E.g E.k (CliR.got { x with now := now } E.k.id sq at_ code A n c)) (hr : Rd E.B0 81 W' 4 A n c (rwCells (rs.map plainW))) (hR : Right (hs.map CallR.ops) os sq at_ code rs) (hl : rs.length ≤ 32) : MidS E w i v12 v13 (.int .i64 now) W' := by
  have hk := h.mem.cliK h.eo hg
  have h0 := h.now0
  have h1 := h.now1
  have h2 := h.cp.sent
  have h3 := h.cp.tried
  have h4 := h.pi.ul
  refine ⟨now, hs, os, ups, dns, reps, rows, CliR.got { x with now := now } E.k.id sq at_ code A n c, rq, s, [], rfl, h0, by omega, h.mem.cli h.eo hg hc (fun hw => by cases hw), h.pi.bump, by omega, ⟨h2, ⟨h3.1, ?_⟩, ⟨h0, Int.le_refl _⟩, h.cp.seq, fun hw => by cases hw⟩, h.outIs rfl rfl rfl W', fun t ht => by simp at ht, fun _ => ⟨(h.cp.req hwt).1, ?_, ⟨rfl, h.eo.id⟩, .inr ⟨rs, hR, hr, hl⟩⟩, h.bw.trans hk.below⟩
  · show x.tried ≤ ((i + 1 : Nat) : Int)
    omega
  · show sq = _
    rw [hsq, h.cp.seq]
theorem HP.addDn (h : HP E w i W v12 v13 now hs os ups dns reps rows x rq s) {t : ByteArray} (ht : DnOk (hs.map CallR.ops) os t) (hm : Mem E x rq s reps rows ups (dns ++ [t]) v12 hs v13 os W') (hb : Below E.B0 W W') : MidS E w i v12 v13 (.int .i64 now) W' := by
  have h1 := h.now1
  have h3 := h.cp.tried
  have h4 := h.pi.ul
  have h5 := h.pi.dl
  refine ⟨now, hs, os, ups, dns ++ [t], reps, rows, x, rq, s, [], rfl, h.now0, by omega, hm, h.pi.bump.addDn ht (by omega), by omega, ⟨h.cp.sent, ⟨h3.1, ?_⟩, h.cp.now0, h.cp.seq, h.cp.req⟩, h.outIs rfl rfl rfl W', fun t ht => by simp at ht, RepIs.no h.there, h.bw.trans hb⟩
  show x.tried ≤ ((i + 1 : Nat) : Int)
  omega
theorem HP.below (h : HP E w i W v12 v13 now hs os ups dns reps rows x rq s) (hb : Below W.heap.size W W') : HP E w i W' v12 v13 now hs os ups dns reps rows x rq s :=
  h.to (h.mem.below hb h.eo.le) (hb.mono h.leb) h.pi
/-- A request is done: the table, the book, the order. -/
theorem HP.served (h : HP E w i W v12 v13 now hs os ups dns reps rows x rq s) {k : Nat} (hk : k < hs.length) {A : Option Addr} {n c : Nat} (hbk : BookAt E.B0 W E.bb E.mb E.depth A n c reps) {at_ code : Int} {rs : List ResS} {W1 W2 : World} (hsv : SvN E.B0 E.bb E.mb E.tg E.depth A reps rows ((hs.map CallR.ops).getD k []) ((k : Int) + 1) at_ code rs W W1)
    {v' : Value} {o : Obj} (hO : W2.ownsRow E.B1 3 1 v' (os.length + 1) (os.flatMap intEnc ++ [.int .i64 k])) (hG : (W1.alloc o).grownBy W2 v13.ownBlock) :
    ∃ q, HP E w i W2 v12 v' now hs (os ++ [(k : Int)]) ups dns ((reps ++ [q]).drop (reps.length + 1 - E.depth)) (doP rows ((hs.map CallR.ops).getD k [])).rows x rq s ∧ Right (hs.map CallR.ops) (os ++ [(k : Int)]) ((k : Int) + 1) at_ code rs ∧ Below E.B0 W W2 := by
  obtain ⟨tA, tc, ht⟩ := h.mem.mbk.tab
  have ks := chg_ko hsv.chg hbk ht h.eo.mb0 h.leb
  obtain ⟨A', n', c', q, b1, b2, b3, b4, b5, b6⟩ := hsv.book
  obtain ⟨tA', tc', ht'⟩ := hsv.tab
  have hm1 : Mem E x rq s ((reps ++ [q]).drop (reps.length + 1 - E.depth)) (doP rows ((hs.map CallR.ops).getD k [])).rows ups dns v12 hs v13 os W1 :=
    ⟨h.mem.mc.ko ks rfl rfl (.inl rfl) (Nat.le_refl _), ⟨⟨A', n', c', b1, b2⟩, ⟨tA', tc', ht'⟩⟩, h.mem.ml.ko ks rfl rfl, h.mem.mh.ko ks rfl rfl rfl rfl (Nat.le_refl _), h.mem.mo.ko ks rfl, Nat.le_trans h.mem.b1 ks.size⟩
  have ko : Ko [3] false E.B1 W1 W2 := own_ko hm1.mo hG hm1.b1
  have e1 : ((k : Int) + 1 - 1).toNat = k := by omega
  have e2 : (k : Int) + 1 - 1 = (k : Int) := by omega
  have hm2 : Mem E x rq s ((reps ++ [q]).drop (reps.length + 1 - E.depth)) (doP rows ((hs.map CallR.ops).getD k [])).rows ups dns v12 hs v' (os ++ [(k : Int)]) W2 :=
    ⟨hm1.mc.ko ko rfl rfl (.inr h.eo.wb1) h.eo.le, hm1.mbk.ko ko rfl rfl rfl rfl rfl h.eo.le, hm1.ml.ko ko rfl rfl, hm1.mh.ko ko rfl rfl rfl rfl h.eo.le, by
      unfold MO
      rw [List.length_append, List.flatMap_append]
      simpa [intEnc] using hO, Nat.le_trans hm1.b1 ko.size⟩
  have hwb : Below E.B0 W W2 := ks.below.trans (ko.below.mono h.eo.le)
  have hR := Right.last (ol := hs.map CallR.ops) (os := os) ((k : Int) + 1)
  rw [e1, e2, ← h.pi.rws, ← hsv.eat, ← hsv.ecode, ← hsv.ers] at hR
  have hok : replyOk 7 q.sq q.at_ q.code q.rs = true := by
    have hgd : (hs.map CallR.ops).getD k [] = hs[k].ops := by
      rw [getD_map, List.getD_eq_getElem?_getD, List.getElem?_eq_getElem hk]
      rfl
    have hd := doP_reply (l := rows) (ops := hs[k].ops) (sq := (k : Int) + 1) (by rw [h.pi.rws]; exact rowsO_sorted _ _) (by rw [h.pi.rws]; exact rowsO_ok _ _) (h.pi.call k hk).req
    rw [b3, b4, b5, b6, hsv.eat, hsv.ecode, hsv.ers, hgd]
    exact hd
  have hp := h.pi.serve (sq := (k : Int) + 1) (q := q) (depth := E.depth) (by omega) (by omega) hsv.last h.eo.d1 b3 (by rw [e1, b4, hsv.eat]) (by rw [e1, b5, hsv.ecode]) (by rw [e1, b6, hsv.ers]) hok
  rw [e1, e2] at hp
  exact ⟨q, ⟨h.eo, hm2, hp, h.cp, h.there, h.out, h.now0, h.now1, h.i1, h.bw.trans hwb⟩, hR, hwb⟩
end
end Go.Proofs.YtallnibjmffahaaGreatDoor

set_option linter.unusedVariables false
set_option linter.unusedSimpArgs false
namespace Go.Proofs.YtallnibjmffahaaGreatDoor
open Go.RowKit

theorem fresh_ops (W : World) : (W.alloc (.cells #[] 79)).ownsRow W.heap.size 79 6 (.slice (some ⟨W.heap.size, 0, none⟩) 0 0) 0 [] := World.ownsRow_made W #[] 0 (Nat.le_refl _) (by simp [maxLen]) (by simp)
theorem fresh_strs (W : World) : (W.alloc (.cells #[] 9)).ownsRow W.heap.size 9 1 (.slice (some ⟨W.heap.size, 0, none⟩) 0 0) 0 [] := World.ownsRow_made W #[] 0 (Nat.le_refl _) (by simp [maxLen]) (by simp)
section
variable {W : World} {B1 : Nat} {A : Option Addr} {c : Nat} {l : List ByteArray}
theorem strs_take (l : List ByteArray) (k : Nat) : strs (l.take k) = (strs l).take k := by
  unfold strs
  exact List.map_take
theorem strs_drop (l : List ByteArray) (k : Nat) : strs (l.drop k) = (strs l).drop k := by
  unfold strs
  exact List.map_drop
theorem strs_cut (l : List ByteArray) (k : Nat) : strs (l.take k) ++ strs (l.drop (k + 1)) = strs (cutL l k) := by
  unfold strs cutL
  exact List.map_append.symm
theorem row_addr (h : W.ownsRow B1 9 1 (.slice A l.length c) l.length (strs l)) (h0 : 0 < l.length) : ∃ p, A = some ⟨p, 0, none⟩ := by
  rcases h.2 with ⟨e, e2⟩ | ⟨g, cap, cur, e, _⟩
  · injection e with e1 e3
    rw [e3] at h0
    exact absurd h0 (Nat.lt_irrefl _)
  · injection e with e1
    exact ⟨g, e1⟩
theorem row_cap (h : W.ownsRow B1 9 1 (.slice A l.length c) l.length (strs l)) : l.length ≤ c := by
  obtain ⟨A', c', e, hr⟩ := Rd.of_own (base := 0) h
  injection e with e1 _ e3
  subst e1 e3
  exact hr.cap
theorem row_pre (h : W.ownsRow B1 9 1 (.slice A l.length c) l.length (strs l)) {k : Nat} (hk : k < l.length) : Rd 0 9 W 1 A k c (strs (l.take k)) := by
  obtain ⟨A', c', e, hr⟩ := Rd.of_own (base := 0) h
  injection e with e1 _ e3
  subst e1 e3
  have h2 := hr.prefix_ (hi := k) (c' := c) (Nat.le_of_lt hk) (by have := hr.cap; omega) (Nat.le_refl _) hr.nil
  rw [Nat.mul_one, ← strs_take] at h2
  exact h2
theorem row_suf {p : Nat} (h : W.ownsRow B1 9 1 (.slice (some ⟨p, 0, none⟩) l.length c) l.length (strs l)) {k : Nat} (hk : k < l.length) : Rd 0 9 W 1 (if c = k + 1 then some (⟨p, 0, none⟩ : Addr) else some ⟨p, k + 1, none⟩) (l.length - (k + 1)) (c - (k + 1)) (strs (l.drop (k + 1))) := by
  obtain ⟨A', c', e, hr⟩ := Rd.of_own (base := 0) h
  injection e with e1 _ e3
  subst e1 e3
  have h2 := hr.cut (lo := k + 1) (hi := l.length) (c' := c) (by omega) (Nat.le_refl _) hr.cap (Nat.le_refl _)
  rw [Nat.mul_one, Nat.mul_one, ← strs_drop, List.take_of_length_le (by unfold strs; simp)] at h2
  have e : (some (⟨p, 0, none⟩ : Addr)).map (·.add (k + 1)) = some ⟨p, k + 1, none⟩ := by simp [add_lit']
  rw [e] at h2
  exact h2
end
section
variable {E : Env} {w W W' : World} {i : Nat} {v12 v13 : Value} {now : Int} {hs : List CallR} {os : List Int} {ups dns : List ByteArray} {reps : List RepR} {rows : List Rw} {x : CliR} {rq : List OpR} {s : ByteArray}
/-- A letter is taken out of the list of those to the server. -/
theorem HP.delUp (h : HP E w i W v12 v13 now hs os ups dns reps rows x rq s) {k : Nat} (hk : k < ups.length) {v : Value} (hb : Below W.heap.size W W') (hO : W'.ownsRow W.heap.size 9 1 v (k + (ups.length - (k + 1))) (strs (ups.take k) ++ strs (ups.drop (k + 1)))) :
    HP E w i (W'.setCell ⟨E.ub, 0, none⟩ v) v12 v13 now hs os (cutL ups k) dns reps rows x rq s ∧ Below E.B0 W (W'.setCell ⟨E.ub, 0, none⟩ v) := by
  have e : k + (ups.length - (k + 1)) = (cutL ups k).length := by have := cutL_len hk; omega
  rw [strs_cut, e] at hO
  obtain ⟨hm, ko⟩ := h.mem.setUp h.eo hb hO
  exact ⟨h.loseUp hk hm ko.below, ko.below⟩
theorem HP.delDn (h : HP E w i W v12 v13 now hs os ups dns reps rows x rq s) {k : Nat} (hk : k < dns.length) {v : Value} (hb : Below W.heap.size W W') (hO : W'.ownsRow W.heap.size 9 1 v (k + (dns.length - (k + 1))) (strs (dns.take k) ++ strs (dns.drop (k + 1)))) :
    HP E w i (W'.setCell ⟨E.db, 0, none⟩ v) v12 v13 now hs os ups (cutL dns k) reps rows x rq s ∧ Below E.B0 W (W'.setCell ⟨E.db, 0, none⟩ v) := by
  have e : k + (dns.length - (k + 1)) = (cutL dns k).length := by have := cutL_len hk; omega
  rw [strs_cut, e] at hO
  obtain ⟨hm, ko⟩ := h.mem.setDn h.eo hb hO
  exact ⟨h.loseDn hk hm ko.below, ko.below⟩
end
end Go.Proofs.YtallnibjmffahaaGreatDoor

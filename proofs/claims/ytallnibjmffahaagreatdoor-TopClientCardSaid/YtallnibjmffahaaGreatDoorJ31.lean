/- TopClient's loop: the state at its head, and in its midst. Arguments opened: the steps of a client and a server. append onto a row of the call's own: where the new slice lies. TopClient's loop: what each turn does to the memory's parts. -/
import Derived.Test.YtallnibjmffahaaGreatDoorJ30
import Derived.Test.YtallnibjmffahaaGreatDoorJ07
import Derived.SizedLaws
import Derived.Test.YtallnibjmffahaaGreatDoorJ01
import Derived.Maps.AppendAt
set_option linter.unusedVariables false
set_option linter.unusedSimpArgs false
namespace Go.Proofs.YtallnibjmffahaaGreatDoor
open Go.RowKit

theorem inc_len (m : Int) : ∀ (os : List Int) (lo : Int), lo ≤ m → os.Pairwise (· < ·) → (∀ v ∈ os, lo ≤ v ∧ v < m) → (os.length : Int) ≤ m - lo
  | [], lo, hl, _, _ => by simp; omega
  | a :: os, lo, hl, hp, h => by
    have ha := h a (by simp)
    rw [List.pairwise_cons] at hp
    have := inc_len m os (a + 1) (by omega) hp.2 (fun v hv => ⟨by have := hp.1 v hv; omega, (h v (by simp [hv])).2⟩)
    simp
    omega
theorem PI.olen {i : Nat} {hs : List CallR} {os : List Int} {ups dns : List ByteArray} {reps : List RepR} {rows : List Rw} (h : PI i hs os ups dns reps rows) : os.length ≤ i := by
  have := inc_len hs.length os 0 (by omega) h.inc h.rng
  have := h.len
  omega
/-- What does not turn. -/
structure Env where
  B0 : Nat
  B1 : Nat
  g : Nat
  wb : Nat
  bb : Nat
  mb : Nat
  tg : Nat
  ub : Nat
  db : Nat
  depth : Nat
  k : CliK
structure EnvOk (E : Env) : Prop where
  g0 : E.B0 ≤ E.g
  g1 : E.g < E.B1
  wb1 : E.wb < E.B1
  bb0 : E.B0 ≤ E.bb
  mb0 : E.B0 ≤ E.mb
  tg0 : E.B0 ≤ E.tg
  ub0 : E.B0 ≤ E.ub
  ub1 : E.ub < E.B1
  db0 : E.B0 ≤ E.db
  db1 : E.db < E.B1
  ne : E.ub ≠ E.db
  d1 : 1 ≤ E.depth
  d2 : E.depth ≤ 64
  ok : KOk E.k
  id : E.k.id = 7
  ver : E.k.ver = 1
  le : E.B0 ≤ E.B1
structure CPl (i : Nat) (now : Int) (hs : List CallR) (x : CliR) (rq : List OpR) : Prop where
  sent : 0 ≤ x.sent ∧ x.sent ≤ now
  tried : 0 ≤ x.tried ∧ x.tried ≤ i
  now0 : 0 ≤ x.now ∧ x.now ≤ now
  seq : x.seq = hs.length
  req : x.waits = true → 1 ≤ hs.length ∧ rq = (hs.map CallR.ops).getD (hs.length - 1) [] ∧ x.rsq = hs.length ∧ x.rcl = 7
/-- The memory's parts. -/
structure Mem (E : Env) (x : CliR) (rq : List OpR) (s : ByteArray) (reps : List RepR) (rows : List Rw) (ups dns : List ByteArray) (v12 : Value) (hs : List CallR) (v13 : Value) (os : List Int) (W : World) : Prop where
  mc : MC E.B0 E.g E.wb E.k x rq s W
  mbk : MB E.B0 E.bb E.mb E.tg E.depth reps rows W
  ml : ML E.B1 E.ub E.db ups dns W
  mh : MH E.B0 E.B1 v12 hs W
  mo : MO E.B1 v13 os W
  b1 : E.B1 ≤ W.heap.size
theorem Mem.ko {E : Env} {x : CliR} {rq : List OpR} {s : ByteArray} {reps : List RepR} {rows : List Rw} {ups dns : List ByteArray} {v12 v13 : Value} {hs : List CallR} {os : List Int} {W W' : World} (h : Mem E x rq s reps rows ups dns v12 hs v13 os W) (hk : Ko [] false E.B0 W W') : Mem E x rq s reps rows ups dns v12 hs v13 os W' :=
  ⟨h.mc.ko hk rfl rfl (.inl rfl) (Nat.le_refl _), h.mbk.ko hk rfl rfl rfl rfl rfl (Nat.le_refl _), h.ml.ko hk rfl rfl, h.mh.ko hk rfl rfl rfl rfl (Nat.le_refl _), h.mo.ko hk rfl, Nat.le_trans h.b1 hk.size⟩
theorem Mem.below {E : Env} {x : CliR} {rq : List OpR} {s : ByteArray} {reps : List RepR} {rows : List Rw} {ups dns : List ByteArray} {v12 v13 : Value} {hs : List CallR} {os : List Int} {W W' : World} (h : Mem E x rq s reps rows ups dns v12 hs v13 os W) (hb : Below W.heap.size W W') (hle : E.B0 ≤ E.B1) : Mem E x rq s reps rows ups dns v12 hs v13 os W' :=
  h.ko (Ko.of_below hb (Nat.le_trans hle h.b1))
/-- The letters that the client has laid ready. -/
def OutIs (B0 : Nat) (W : World) (x : CliR) (outL : List ByteArray) : Prop :=
  x.on = outL.length ∧ outL.length ≤ 1 ∧ Rd B0 61 W 2 x.oA x.on x.oc (outL.flatMap fun b => [.int .i64 0, .string b])
/-- The reply that the client has. -/
def RepIs (B0 : Nat) (W : World) (x : CliR) (hs : List CallR) (os : List Int) : Prop :=
  x.there = true → 1 ≤ hs.length ∧ x.psq = hs.length ∧ (x.waits = false ∧ x.pcl = 7) ∧ (x.pcode = 241 ∨ ∃ rs, Right (hs.map CallR.ops) os x.psq x.pat x.pcode rs ∧ Rd B0 81 W 4 x.pA x.pn x.pc (rwCells (rs.map plainW)) ∧ rs.length ≤ 32)
/-- At the head. -/
def HeadS (E : Env) (w : World) (i : Nat) (v12 v13 v14 : Value) (W : World) : Prop :=
  ∃ now hs os ups dns reps rows x rq s, v14 = .int .i64 now ∧ 0 ≤ now ∧ now ≤ (i : Int) ∧ Mem E x rq s reps rows ups dns v12 hs v13 os W ∧ PI i hs os ups dns reps rows ∧ CPl i now hs x rq ∧ x.there = false ∧ x.oA = none ∧ x.on = 0 ∧ x.oc = 0 ∧ Below E.B0 w W
/-- Behind the switch. -/
def MidS (E : Env) (w : World) (i : Nat) (v12 v13 v14 : Value) (W : World) : Prop :=
  ∃ now hs os ups dns reps rows x rq s outL, v14 = .int .i64 now ∧ 0 ≤ now ∧ now ≤ (i : Int) + 1 ∧ Mem E x rq s reps rows ups dns v12 hs v13 os W ∧ PI (i + 1) hs os ups dns reps rows ∧ ups.length ≤ 2 * i + 1 ∧ CPl (i + 1) now hs x rq ∧ OutIs E.B0 W x outL ∧ (∀ s ∈ outL, UpOk (hs.map CallR.ops) s) ∧ RepIs E.B0 W x hs os ∧ Below E.B0 w W
theorem HeadS.mid {E : Env} {w W W' : World} {i : Nat} {v12 v13 v14 : Value} (h : HeadS E w i v12 v13 v14 W) (hb : Below W.heap.size W W') (hle : E.B0 ≤ E.B1) : MidS E w i v12 v13 v14 W' := by
  obtain ⟨now, hs, os, ups, dns, reps, rows, x, rq, s, h1, h2, h3, hm, hp, hc, h4, h5, h6, h7, h8⟩ := h
  have hk : Ko [] false E.B0 W W' := Ko.of_below hb (Nat.le_trans hle hm.b1)
  refine ⟨now, hs, os, ups, dns, reps, rows, x, rq, s, [], h1, h2, by omega, ⟨hm.mc.ko hk rfl rfl (.inl rfl) (Nat.le_refl _), hm.mbk.ko hk rfl rfl rfl rfl rfl (Nat.le_refl _), hm.ml.ko hk rfl rfl, hm.mh.ko hk rfl rfl rfl rfl (Nat.le_refl _), hm.mo.ko hk rfl, Nat.le_trans hm.b1 hb.size⟩, hp.bump, by have := hp.ul; omega, ⟨hc.sent, ⟨hc.tried.1, by have := hc.tried.2; omega⟩, hc.now0, hc.seq, hc.req⟩, ⟨h6, by simp, by rw [h5, h6, h7]; exact Rd.none_⟩, fun s hs => by simp at hs, (by unfold RepIs; intro e; rw [h4] at e; cases e), h8.trans (hb.mono (Nat.le_trans hle hm.b1))⟩
/-- append to one of the two lists of letters. -/
theorem Box.add {lo B1 b b2 c : Nat} {A A2 : Option Addr} {l l2 : List ByteArray} {W W' : World} {v : Value} {s : ByteArray} (h1 : W.heap[b]? = some (.cells #[.slice A l.length c] 37 (0, 0))) (h2 : Box B1 b2 A2 l2 W) (hne : b ≠ b2) (hlo : lo ≤ b) (hlo1 : lo ≤ B1) (hbl : b < B1) (hb2 : b2 < B1) (hown : W.ownsRow B1 9 1 (.slice A l.length c) l.length (strs l)) (hdis : ∀ a d, A = some a → A2 = some d → a.block ≠ d.block)
    (hO : W'.ownsRow B1 9 1 v (l.length + 1) (strs (l ++ [s]))) (hG : W.grownBy W' (Value.slice A l.length c).ownBlock ∨ ∃ o, (W.alloc o).grownBy W' (Value.slice A l.length c).ownBlock) (hat : v.ownBlock = (Value.slice A l.length c).ownBlock ∨ ∃ g, v.ownBlock = some g ∧ W.heap.size ≤ g) :
    ∃ A' c', v = .slice A' (l.length + 1) c' ∧ Box B1 b A' (l ++ [s]) (W'.setCell ⟨b, 0, none⟩ v) ∧ Box B1 b2 A2 l2 (W'.setCell ⟨b, 0, none⟩ v) ∧ (∀ a d, A' = some a → A2 = some d → a.block ≠ d.block) ∧ Ko [9, 37] false lo W (W'.setCell ⟨b, 0, none⟩ v) := by
  obtain ⟨A', c', rfl, _⟩ := Rd.of_own (base := 0) hO
  have hG' : W.grownBy W' (Value.slice A l.length c).ownBlock := by
    rcases hG with hG | ⟨o, hG⟩
    · exact hG
    · exact gb_trans (gb_below ((Below.refl _ _).alloc (Nat.le_refl _) o) _) hG
  have hrow : ∀ j, (Value.slice A l.length c).ownBlock = some j → IsT W j 9 ∧ B1 ≤ j := own_istM hown
  have hk1 : Ko [9, 37] false lo W W' := by
    cases hj : (Value.slice A l.length c).ownBlock with
    | none =>
      rw [hj] at hG'
      exact Ko.of_below ⟨hG'.os, hG'.tape, hG'.output, hG'.size, fun k hk => hG'.block k hk (by simp)⟩ (by have := (Array.getElem?_eq_some_iff.1 h1).1; omega)
    | some j =>
      rw [hj] at hG'
      obtain ⟨⟨cs, fr, hc⟩, _⟩ := hrow j hj
      exact Ko.of_gb hG' hc rfl (by have := (hrow j hj).2; omega)
  have hb' : W'.heap[b]? = some (.cells #[.slice A l.length c] 37 (0, 0)) := (hG'.block b (Array.getElem?_eq_some_iff.1 h1).1 (fun e => by have := (hrow b e.symm).2; omega)).trans h1
  obtain ⟨c2, g1, g2⟩ := h2.blk
  have hb2' : W'.heap[b2]? = some (.cells #[.slice A2 l2.length c2] 37 (0, 0)) := (hG'.block b2 (Array.getElem?_eq_some_iff.1 g1).1 (fun e => by have := (hrow b2 e.symm).2; omega)).trans g1
  have hrow2 : ∀ j, (Value.slice A2 l2.length c2).ownBlock = some j → j < W.heap.size := fun j hj => by
    obtain ⟨⟨cs, fr, hc⟩, _⟩ := own_istM g2 j hj
    exact (Array.getElem?_eq_some_iff.1 hc).1
  have hdis2 : ∀ j, (Value.slice A2 l2.length c2).ownBlock = some j → some j ≠ (Value.slice A l.length c).ownBlock := fun j hj e => by
    cases A with
    | none => cases e
    | some a =>
      cases A2 with
      | none => cases hj
      | some d =>
        simp only [Value.ownBlock, Option.some.injEq] at e hj
        exact hdis a d rfl rfl (by omega)
  have g2' : W'.ownsRow B1 9 1 (.slice A2 l2.length c2) l2.length (strs l2) := g2.kept hG' (by
    cases hj : (Value.slice A2 l2.length c2).ownBlock with
    | none => exact .inl rfl
    | some j => exact .inr (fun e => hdis2 j hj e))
  have set1 : ∀ {v' : Value} {n : Nat} {xs : List Value}, W'.ownsRow B1 9 1 v' n xs → (W'.setCell ⟨b, 0, none⟩ (.slice A' (l.length + 1) c')).ownsRow B1 9 1 v' n xs := fun h => h.kept (gb_cell' _ _ _ _) (.inr fun e => by have := (own_istM h b e).2; omega)
  refine ⟨A', c', rfl, ⟨c', ?_, ?_⟩, ⟨c2, ?_, set1 g2'⟩, ?_, hk1.trans (Ko.of_gb (gb_cell' _ _ _ _) hb' rfl hlo)⟩
  · simp only [World.setCell, Array.getElem?_modify, hb', if_true, Option.map_some, List.length_append, List.length_cons, List.length_nil]
    rfl
  · rw [List.length_append]
    exact set1 hO
  · exact (Below.heap_setCell W' ⟨b, 0, none⟩ _ b2 (fun e => hne e.symm)).trans hb2'
  · intro a d ha hd
    subst ha hd
    rcases hat with hat | ⟨g, hat, hg⟩
    · have := hdis2 d.block rfl
      rw [← hat] at this
      intro e
      exact this (by simp [Value.ownBlock, e])
    · have h3 := hrow2 d.block rfl
      simp only [Value.ownBlock, Option.some.injEq] at hat
      omega
/-- A step: what is done, and with what. -/
structure StepR where
  kind : Int
  i : Int
  oA : Option Addr
  on : Nat
  oc : Nat
  ops : List OpR
def StepR.enc (x : StepR) : List Value := [.int .i64 x.kind, .int .i64 x.i, .slice x.oA x.on x.oc]
structure StepIn (base : Nat) (w : World) (x : StepR) : Prop where
  rdo : Rd base 79 w 6 x.oA x.on x.oc (opCells x.ops)
  fits : ∀ y ∈ x.ops, Fits y
  obig : x.on * 64 ≤ 140737488351232
structure Steps (base : Nat) (w : World) (A : Option Addr) (n c : Nat) (ss : List StepR) : Prop where
  rd : Rd base 41 w 3 A n c (ss.flatMap StepR.enc)
  ins : ∀ x ∈ ss, StepIn base w x
  big : n ≤ 140737488355328
theorem Steps.below0 {base : Nat} {w w' : World} {A : Option Addr} {n c : Nat} {ss : List StepR} (h : Steps base w A n c ss) (hb : Below base w w') (h0 : ∀ (b : Nat), b < w.heap.size → b < base) : Steps base w' A n c ss :=
  ⟨h.rd.keep hb.size fun b hs => hb.block b (h0 b hs.lt), fun x hx => ⟨(h.ins x hx).rdo.keep hb.size fun b hs => hb.block b (h0 b hs.lt), (h.ins x hx).fits, (h.ins x hx).obig⟩, h.big⟩
theorem elt_str : Elt Tryz.prog 37 9 1 16 := Elt.mk' Tryz.underlying37 (z := .string ⟨#[]⟩) (by kernel_rfl) rfl (by omega)
theorem elt_call : Elt Tryz.prog 38 53 10 112 := Elt.mk' Tryz.underlying38 (z := .agg #[.int .i64 0, .int .i64 0, .int .i64 0, .int .i64 0, .slice none 0 0, .int .i64 0, .int .i64 0, .slice none 0 0, .int .i64 0, .int .i64 0]) (by kernel_rfl) rfl (by omega)
theorem strs_one (l : List ByteArray) : ∀ u ∈ strs l, u.oneCell' = true := by
  intro u hu
  simp only [strs, List.mem_map] at hu
  obtain ⟨s, _, rfl⟩ := hu
  rfl
theorem call_one (l : List CallR) : ∀ u ∈ l.flatMap CallR.enc, u.oneCell' = true := by
  intro u hu
  obtain ⟨x, _, hx⟩ := List.mem_flatMap.1 hu
  simp only [CallR.enc, List.mem_cons, List.not_mem_nil, or_false] at hx
  rcases hx with rfl | rfl | rfl | rfl | rfl | rfl | rfl | rfl | rfl | rfl <;> rfl
/-- A call that was told. -/
def toldC (y : CallR) (t ps at_ code : Int) (A : Option Addr) (n c : Nat) (rs : List ResS) : CallR :=
  { y with told := t, pc := 7, ps := ps, rA := A, rn := n, rc := c, at_ := at_, code := code, res := rs.map fromS, rr := rs.map fun r => ⟨r.code, r.stamp, r.val, none, 0, 0⟩ }
theorem h_set : ∀ (hs : List CallR) (k : Nat) (hk : k < hs.length) (t ps at_ code : Int) (A : Option Addr) (n c : Nat) (rs : List ResS),
    ((((((hs.flatMap CallR.enc).set (k * 10 + 1) (.int .i64 t)).set (k * 10 + 5) (.int .i64 7)).set (k * 10 + 6) (.int .i64 ps)).set (k * 10 + 7) (.slice A n c)).set (k * 10 + 8) (.int .i64 at_)).set (k * 10 + 9) (.int .i64 code) = (hs.set k (toldC hs[k] t ps at_ code A n c rs)).flatMap CallR.enc
  | y :: hs, 0, _, t, ps, at_, code, A, n, c, rs => rfl
  | y :: hs, k + 1, hk, t, ps, at_, code, A, n, c, rs => by
    have ih := h_set hs k (by simpa using hk) t ps at_ code A n c rs
    rw [show (k + 1) * 10 + 1 = (k * 10 + 1) + 10 by omega, show (k + 1) * 10 + 5 = (k * 10 + 5) + 10 by omega, show (k + 1) * 10 + 6 = (k * 10 + 6) + 10 by omega, show (k + 1) * 10 + 7 = (k * 10 + 7) + 10 by omega, show (k + 1) * 10 + 8 = (k * 10 + 8) + 10 by omega, show (k + 1) * 10 + 9 = (k * 10 + 9) + 10 by omega]
    show y.enc ++ ((((((hs.flatMap CallR.enc).set (k * 10 + 1) (.int .i64 t)).set (k * 10 + 5) (.int .i64 7)).set (k * 10 + 6) (.int .i64 ps)).set (k * 10 + 7) (.slice A n c)).set (k * 10 + 8) (.int .i64 at_)).set (k * 10 + 9) (.int .i64 code) = y.enc ++ (hs.set k (toldC (hs[k]'(by simpa using hk)) t ps at_ code A n c rs)).flatMap CallR.enc
    rw [ih]
theorem toldC_in {B0 : Nat} {w : World} {y : CallR} (h : CallIn B0 w y) {t ps at_ code : Int} {A : Option Addr} {n c : Nat} {rs : List ResS} (hr : Rd B0 81 w 4 A n c (rwCells (rs.map plainW))) (hl : rs.length ≤ 32) : CallIn B0 w (toldC y t ps at_ code A n c rs) := by
  have hn : n = rs.length := by
    have := hr.count (enc := ResW.enc) (fun _ => rfl) (by omega)
    simpa using this.symm
  refine ⟨h.rdo, h.fits, h.obig, ?_, ?_, by show n ≤ 140737488355328; omega⟩
  · have e : resCells (rs.map fun r => (⟨r.code, r.stamp, r.val, none, 0, 0⟩ : RRes)) = rwCells (rs.map plainW) := by
      unfold resCells rwCells
      rw [List.flatMap_map, List.flatMap_map]
      rfl
    show Rd B0 81 w 4 A n c (resCells (rs.map fun r => (⟨r.code, r.stamp, r.val, none, 0, 0⟩ : RRes)))
    rw [e]
    exact hr
  · show All2 (RIn B0 w) (rs.map fun r => (⟨r.code, r.stamp, r.val, none, 0, 0⟩ : RRes)) (rs.map fromS)
    clear hr hn hl h
    induction rs with
    | nil => trivial
    | cons r rs ih => exact ⟨⟨rfl, rfl, rfl, Rd.none_, Nat.zero_le _⟩, ih⟩
end Go.Proofs.YtallnibjmffahaaGreatDoor

set_option linter.unusedVariables false
set_option linter.unusedSimpArgs false
namespace Go.Proofs.YtallnibjmffahaaGreatDoor
open Go.RowKit Go.ChangeShapes Go.WideShapes Go.ChangeAt Go.Deep

/-- All that is reached is of a size that fits. -/
def Wt {H : Type} (P : Program) (t : TypeId) (d : DataW H) : Prop := ∀ n ∈ d.weights P t, n ≤ reachBytes
theorem Wt.elem {H : Type} {P : Program} {t e : TypeId} {elems rest : List (DataW H)} (h : Wt P t (.slice elems rest)) (hu : P.underlying t = some (.slice e)) {d : DataW H} (hd : d ∈ elems) : Wt P e d := by
  have hall : ∀ (l : List (DataW H)), d ∈ l → ∀ n ∈ d.weights P e, n ∈ DataW.weightsAll P e l := by
    intro l
    induction l with
    | nil => intro h; cases h
    | cons x r ih =>
      intro hm n hn
      simp only [DataW.weightsAll, List.mem_append]
      rcases List.mem_cons.1 hm with rfl | hm
      · exact .inl hn
      · exact .inr (ih hm n hn)
  intro n hn
  refine h n ?_
  simp only [DataW.weights, hu, List.mem_cons, List.mem_append]
  exact .inr (.inl (hall elems hd n hn))
theorem Wt.part {H : Type} {P : Program} {t : TypeId} {fs : Array Field} {parts : List (DataW H)} (h : Wt P t (.agg parts)) (hu : P.underlying t = some (.struct fs)) {j : Nat} {f : Field} {d : DataW H} (hf : fs[j]? = some f) (hd : parts[j]? = some d) : Wt P f.type d := by
  intro n hn
  refine h n ?_
  simp only [DataW.weights, hu]
  exact DataW.weights_mem_each (j := j) (t := f.type) (d := d) (by rw [List.getElem?_map, Array.getElem?_toList, hf]; rfl) hd n hn
theorem Wt.len {H : Type} {P : Program} {t e : TypeId} {elems rest : List (DataW H)} (h : Wt P t (.slice elems rest)) (hu : P.underlying t = some (.slice e)) : (elems.length + rest.length) * P.bytesOf e ≤ reachBytes :=
  h _ (by simp [DataW.weights, hu])
theorem Wt.top {H : Type} {P : Program} {ts : List TypeId} {ds : List (DataW H)} (h : (DataW.weightsEach P ts ds).all (· ≤ reachBytes) = true) {j : Nat} {t : TypeId} {d : DataW H} (ht : ts[j]? = some t) (hd : ds[j]? = some d) : Wt P t d := fun n hn => by
  have := List.all_eq_true.1 h n (DataW.weights_mem_each ht hd n hn)
  simpa using this

section
variable {H : Type} {enc : TypeId × Value → H} {w : World} {base : Nat} {spare : Nat → Bool} {held : Bool}
theorem open_len {P : Program} {t e : TypeId} {fuel A n c : _} {x : DataW H × List MemPlace} (ht : P.underlying t = some (.slice e)) (h : DataW.trod enc P w base spare held fuel t [.slice A n c] = some x) (hw : Wt P t x.1) : n * P.bytesOf e ≤ reachBytes := by
  rcases open_slice ht h with ⟨h0, _⟩ | ⟨a, len, cap, m, nn, D, Pl, hcs, hb, hl, hm, hmm, hx, hi⟩
  · injection h0 with h0 _
    injection h0 with _ h1 _
    subst h1
    simp
  · injection hcs with hcs _
    injection hcs with _ h1 _
    subst h1
    rw [hx] at hw
    have := hw.len ht
    simp only [List.length_map, List.length_range] at this
    refine Nat.le_trans (Nat.mul_le_mul_right _ ?_) this
    omega

set_option maxRecDepth 100000 in
theorem open_steps {fuel : Nat} {cs : List Value} {x : DataW H × List MemPlace} (h : DataW.trod enc Tryz.prog w base spare held fuel 22 cs = some x) (hw : Wt Tryz.prog 22 x.1) :
    ∃ A n c, ∃ ts : List StepR, cs = [.slice A n c] ∧ Steps w.heap.size w A n c ts := by
  have hlen : ∀ A n c, cs = [.slice A n c] → n ≤ 140737488355328 := by
    rintro A n c rfl
    have hb := open_len Tryz.underlying22 h hw
    rw [show Tryz.prog.bytesOf 41 = 40 by kernel_rfl] at hb
    unfold reachBytes at hb
    omega
  rcases open_slice Tryz.underlying22 h with ⟨rfl, _⟩ | ⟨a, len, cap, m, n, D, Pl, rfl, hb, hl, hm, hmm, hx, hi⟩
  · exact ⟨none, 0, 0, [], rfl, ⟨Rd.none_, fun a ha => (by cases ha), by omega⟩⟩
  · have hC : Tryz.prog.cellsOf 41 = 3 := by kernel_rfl
    rw [hC] at hi
    have hall : ∀ i, i < len → ∃ y : StepR, (∀ j v, y.enc[j]? = some v → w.cell? (a.add (i * 3 + j)) = some v) ∧ StepIn w.heap.size w y := by
      intro i hil
      have him : i < m := by rw [hmm]; split <;> omega
      obtain ⟨cs', hc, ht'⟩ := hi i him
      obtain ⟨_, hcl, hat⟩ := World.cells?_some hc
      have hwD : Wt Tryz.prog 41 (D i) := by
        rw [hx] at hw
        exact hw.elem Tryz.underlying22 (List.mem_map_of_mem (List.mem_range.2 hil))
      obtain ⟨ys, n', hn', hy, hlen, hyl, hf⟩ := DataW.trod_struct Tryz.underlying41 ht'
      have hyl3 : ys.length = 3 := hyl
      match cs', hcl with
      | [c0, c1, c2], _ =>
        have s0 : ys[0]? = some (ys[0]'(by omega)) := List.getElem?_eq_getElem (by omega)
        have s1 : ys[1]? = some (ys[1]'(by omega)) := List.getElem?_eq_getElem (by omega)
        have s2 : ys[2]? = some (ys[2]'(by omega)) := List.getElem?_eq_getElem (by omega)
        have t0 : DataW.trod enc Tryz.prog w base spare held n' 3 [c0] = some (ys[0]'(by omega)) := (hf 0 _ rfl).trans s0
        have t1 : DataW.trod enc Tryz.prog w base spare held n' 3 [c1] = some (ys[1]'(by omega)) := (hf 1 _ rfl).trans s1
        have t2 : DataW.trod enc Tryz.prog w base spare held n' 39 [c2] = some (ys[2]'(by omega)) := (hf 2 _ rfl).trans s2
        have hD : D i = .agg (ys.map (·.1)) := congrArg Prod.fst hy
        rw [hD] at hwD
        have w2 : Wt Tryz.prog 39 (ys[2]'(by omega)).1 := hwD.part Tryz.underlying41 (j := 2) rfl (by rw [List.getElem?_map, s2]; rfl)
        obtain ⟨z0, e0, _, _⟩ := DataW.trod_int (k := .i64) (by kernel_rfl) t0
        obtain ⟨z1, e1, _, _⟩ := DataW.trod_int (k := .i64) (by kernel_rfl) t1
        obtain ⟨A2, n2, c2', ops, e2, hrd, hfit⟩ := open_ops t2
        injection e0 with e0 _; injection e1 with e1 _; injection e2 with e2 _
        subst e0 e1 e2
        have hb2 := open_len Tryz.underlying39 t2 w2
        rw [show Tryz.prog.bytesOf 79 = 64 by kernel_rfl] at hb2
        unfold reachBytes at hb2
        refine ⟨⟨z0, z1, A2, n2, c2', ops⟩, fun j v hj => ?_, ⟨hrd, fun x hx => hfit x hx, by simp only; omega⟩⟩
        have hjl : j < 3 := (List.getElem?_eq_some_iff.1 hj).1
        have := hat j hjl
        rw [Go.Deep.add_add] at this
        rw [this]
        exact hj
    obtain ⟨ts, hlen2, hp⟩ := list_choice (fun i (y : StepR) => (∀ j v, y.enc[j]? = some v → w.cell? (a.add (i * 3 + j)) = some v) ∧ StepIn w.heap.size w y) len hall
    refine ⟨some a, len, cap, ts, rfl, ⟨Rd.mk_enc (k := 3) (fun _ => rfl) (by omega) hlen2 hl (fun i hi => (hp i hi).1), fun y hy => ?_, hlen _ _ _ rfl⟩⟩
    obtain ⟨i, hi, rfl⟩ := List.getElem_of_mem hy
    exact (hp i hi).2
end
end Go.Proofs.YtallnibjmffahaaGreatDoor

set_option linter.unusedVariables false
set_option linter.unusedSimpArgs false
namespace Go.Proofs.YtallnibjmffahaaGreatDoor
open Go.RowKit

/-- append onto a row of the call's own, whatever is added. -/
theorem run_append_mine_at {P : Program} {base : Nat} (w : World) (t ty e : TypeId) (i : TypeInfo) (z : Value) (size bytes : Nat) (ht : P.underlying t = some (.slice e)) (hi : P.info? e = some i) (hz : i.zero = some z)
    (hsize : i.size = size) (hby : i.bytes = bytes) (hzs : z.cells.size = size) (hsz : 0 < size)
    {own n : Nat} {v : Value} {xs : List Value} (hown : w.ownsRow own e size v n xs)
    {B : Option Addr} {m d : Nat} {ys : List Value} (hy : Rd base e w size B m d ys) (h1 : ∀ u ∈ ys, u.oneCell' = true)
    (h63 : n + m ≤ maxLen) (hbytes : (n + m) * bytes ≤ 140737488355328) (hbase : own ≤ w.heap.size) :
    ∃ v' w', (Builtin.append_ #[t, t] ty #[v, .slice B m d]).run P w = .ok v' w' ∧ w'.ownsRow own e size v' (n + m) (xs ++ ys) ∧ w.grownBy w' v.ownBlock ∧ (v'.ownBlock = v.ownBlock ∨ v'.ownBlock = some w.heap.size) := by
  by_cases hm : m = 0
  · subst hm
    have hn : ys = [] := List.eq_nil_of_length_eq_zero (by simpa using hy.len)
    subst hn
    refine ⟨v, w, ?_, by simpa using hown, ⟨rfl, rfl, rfl, Nat.le_refl _, fun _ _ _ => rfl⟩, .inl rfl⟩
    rcases hown.2 with ⟨rfl, rfl⟩ | ⟨g, cap, cur, rfl, hb, hh, h1, h2, h3, h4⟩
    · cases B <;> simp [Builtin.append_, run_underlying ht, sizeOf, typeInfo, hi, Builtin.lenOf, Builtin.firstCells, loadCells, loadCellsFrom, storeCells]
    · cases B <;> simp [Builtin.append_, run_underlying ht, sizeOf, typeInfo, hi, Builtin.lenOf, Builtin.firstCells, loadCells, loadCellsFrom, storeCells, h1]
  · obtain ⟨b, off, rfl, hb, hcells⟩ := hy.at_ (by omega)
    have hnews : ∀ j u, ys[j]? = some u → w.cell? ((⟨b, off, none⟩ : Addr).add j) = some u := fun j u hu => by rw [add_lit']; exact hcells j u hu
    obtain ⟨v', w', hrun, r1, r2, _, r3⟩ := run_append_own_at (P := P) w own t ty e i z size bytes ht hi hz hsize hby hzs hsz v n xs hown ⟨b, off, none⟩ m d ys hy.len hnews h1 h63 hbytes hbase
    exact ⟨v', w', hrun, r1, r2, r3⟩


section
variable {P : Program} {ops : Array Oper} {o : Oper} {a : Act} {w : World} {K : Act → World → Prop} {Q : Exit → Act → World → Prop}
theorem wp_append_mine_at {base own : Nat} (s x : Operand) (t : TypeId) (hop : o.op = .call { callee := .builtin .append, args := #[s, x], argTypes := #[t, t] })
    {e size bytes : Nat} (E : Elt P t e size bytes)
    {v : Value} {B : Option Addr} {n m d : Nat} {xs ys : List Value} (hs : a.eval s = v) (hx : a.eval x = .slice B m d) (rx : w.ownsRow own e size v n xs) (ry : Rd base e w size B m d ys)
    (h1 : ∀ u ∈ ys, u.oneCell' = true) (h63 : n + m ≤ maxLen) (hbytes : (n + m) * bytes ≤ 140737488355328) (hb : own ≤ w.heap.size)
    (hK : ∀ v' w', w'.ownsRow own e size v' (n + m) (xs ++ ys) → w.grownBy w' v.ownBlock → (v'.ownBlock = v.ownBlock ∨ v'.ownBlock = some w.heap.size) → K (a.put o.dst v') w') : o.wp P a w K Q := by
  obtain ⟨i, z, hi, hz, hsz, hby, hzs⟩ := E.info
  obtain ⟨v', w', hr, h2, h3, h4⟩ := run_append_mine_at (P := P) (base := base) w t o.type e i z size bytes E.ht hi hz hsz hby hzs E.pos rx ry h1 h63 hbytes hb
  unfold Oper.wp execOp
  simp only [hop, resolve, invoke, builtin, Sem.run_bind, Sem.run_pure, Result.andThen_ok, List.map_toArray, List.map_cons, List.map_nil, hs, hx, hr]
  exact hK _ _ h2 h3 h4
theorem wpList_append_mine_at {rest : List Oper} {base own : Nat} (hg : o.guard = none) (s x : Operand) (t : TypeId) (hop : o.op = .call { callee := .builtin .append, args := #[s, x], argTypes := #[t, t] })
    {e size bytes : Nat} (E : Elt P t e size bytes)
    {v : Value} {B : Option Addr} {n m d : Nat} {xs ys : List Value} (hs : a.eval s = v) (hx : a.eval x = .slice B m d) (rx : w.ownsRow own e size v n xs) (ry : Rd base e w size B m d ys)
    (h1 : ∀ u ∈ ys, u.oneCell' = true) (h63 : n + m ≤ maxLen) (hbytes : (n + m) * bytes ≤ 140737488355328) (hb : own ≤ w.heap.size)
    (hK : ∀ v' w', w'.ownsRow own e size v' (n + m) (xs ++ ys) → w.grownBy w' v.ownBlock → (v'.ownBlock = v.ownBlock ∨ v'.ownBlock = some w.heap.size) → wpList P ops Q rest (a.put o.dst v') w') : wpList P ops Q (o :: rest) a w :=
  wpList_plain hg fun _ hk => wp_append_mine_at s x t hop E hs hx rx ry h1 h63 hbytes hb fun v' w' h2 h3 h4 => hk _ _ (hK v' w' h2 h3 h4)
theorem step_append_mine_at {F : Prop} {base own : Nat} (hg : o.guard = none) (s x : Operand) (t : TypeId) (hop : o.op = .call { callee := .builtin .append, args := #[s, x], argTypes := #[t, t] })
    {e size bytes : Nat} (E : Elt P t e size bytes)
    {v : Value} {B : Option Addr} {n m d : Nat} {xs ys : List Value} (hs : a.eval s = v) (hx : a.eval x = .slice B m d) (rx : w.ownsRow own e size v n xs) (ry : Rd base e w size B m d ys)
    (h1 : ∀ u ∈ ys, u.oneCell' = true) (h63 : n + m ≤ maxLen) (hbytes : (n + m) * bytes ≤ 140737488355328) (hb : own ≤ w.heap.size)
    (hK : ∀ v' w', w'.ownsRow own e size v' (n + m) (xs ++ ys) → w.grownBy w' v.ownBlock → (v'.ownBlock = v.ownBlock ∨ v'.ownBlock = some w.heap.size) → K (a.put o.dst v') w') : if Region.wanted o (yielded ops a.tmps) = true then Oper.wp P o a w K Q else F := by
  rw [if_pos (by simp [Region.wanted, hg])]
  exact wp_append_mine_at s x t hop E hs hx rx ry h1 h63 hbytes hb hK
end

end Go.Proofs.YtallnibjmffahaaGreatDoor

set_option linter.unusedVariables false
set_option linter.unusedSimpArgs false
namespace Go.Proofs.YtallnibjmffahaaGreatDoor
open Go.RowKit

section
variable {E : Env} {x : CliR} {rq : List OpR} {s : ByteArray} {reps : List RepR} {rows : List Rw} {ups dns : List ByteArray} {v12 v13 : Value} {hs : List CallR} {os : List Int} {W W' : World}
theorem box_stays {B1 b c : Nat} {A : Option Addr} {l : List ByteArray} {o : Obj} (h1 : W.heap[b]? = some (.cells #[.slice A l.length c] 37 (0, 0))) (hbl : b < B1) (hown : W.ownsRow B1 9 1 (.slice A l.length c) l.length (strs l)) (hG : (W.alloc o).grownBy W' (Value.slice A l.length c).ownBlock) :
    W'.heap[b]? = some (.cells #[.slice A l.length c] 37 (0, 0)) := by
  have hb := (Array.getElem?_eq_some_iff.1 h1).1
  refine (hG.block b (by simp; omega) (fun e => by have := (own_istM hown b e.symm).2; omega)).trans ((heap_alloc_old _ _ hb).trans h1)
/-- A letter more goes up. -/
theorem Mem.addUp (h : Mem E x rq s reps rows ups dns v12 hs v13 os W) (hE : EnvOk E) {uA : Option Addr} {uc : Nat} {dA : Option Addr} {v : Value} {t : ByteArray} {o : Obj} (u1 : W.heap[E.ub]? = some (.cells #[.slice uA ups.length uc] 37 (0, 0))) (u2 : W.ownsRow E.B1 9 1 (.slice uA ups.length uc) ups.length (strs ups)) (hd : Box E.B1 E.db dA dns W) (hne : ∀ a b, uA = some a → dA = some b → a.block ≠ b.block)
    (hO : W'.ownsRow E.B1 9 1 v (ups.length + 1) (strs ups ++ [.string t])) (hG : (W.alloc o).grownBy W' (Value.slice uA ups.length uc).ownBlock) (hat : v.ownBlock = (Value.slice uA ups.length uc).ownBlock ∨ v.ownBlock = some (W.alloc o).heap.size) :
    Mem E x rq s reps rows (ups ++ [t]) dns v12 hs v13 os (W'.setCell ⟨E.ub, 0, none⟩ v) ∧ Ko [9, 37] false E.B0 W (W'.setCell ⟨E.ub, 0, none⟩ v) := by
  have hO' : W'.ownsRow E.B1 9 1 v (ups.length + 1) (strs (ups ++ [t])) := by
    rw [show strs (ups ++ [t]) = strs ups ++ [.string t] by simp [strs]]
    exact hO
  obtain ⟨A', c', rfl, b1, b2, b3, k⟩ := Box.add (lo := E.B0) u1 hd hE.ne hE.ub0 hE.le hE.ub1 hE.db1 u2 hne hO' (.inr ⟨o, hG⟩) (hat.imp id fun e => ⟨_, e, by simp⟩)
  exact ⟨⟨h.mc.ko k rfl rfl (.inl rfl) (Nat.le_refl _), h.mbk.ko k rfl rfl rfl rfl rfl (Nat.le_refl _), ⟨A', dA, b1, b2, b3⟩, h.mh.ko k rfl rfl rfl rfl (Nat.le_refl _), h.mo.ko k rfl, Nat.le_trans h.b1 k.size⟩, k⟩
/-- A letter more comes down. -/
theorem Mem.addDn (h : Mem E x rq s reps rows ups dns v12 hs v13 os W) (hE : EnvOk E) {uA : Option Addr} {dc : Nat} {dA : Option Addr} {v : Value} {t : ByteArray} {o : Obj} (d1 : W.heap[E.db]? = some (.cells #[.slice dA dns.length dc] 37 (0, 0))) (d2 : W.ownsRow E.B1 9 1 (.slice dA dns.length dc) dns.length (strs dns)) (hu : Box E.B1 E.ub uA ups W) (hne : ∀ a b, uA = some a → dA = some b → a.block ≠ b.block)
    (hO : W'.ownsRow E.B1 9 1 v (dns.length + 1) (strs dns ++ [.string t])) (hG : (W.alloc o).grownBy W' (Value.slice dA dns.length dc).ownBlock) (hat : v.ownBlock = (Value.slice dA dns.length dc).ownBlock ∨ v.ownBlock = some (W.alloc o).heap.size) :
    Mem E x rq s reps rows ups (dns ++ [t]) v12 hs v13 os (W'.setCell ⟨E.db, 0, none⟩ v) ∧ Ko [9, 37] false E.B0 W (W'.setCell ⟨E.db, 0, none⟩ v) := by
  have hO' : W'.ownsRow E.B1 9 1 v (dns.length + 1) (strs (dns ++ [t])) := by
    rw [show strs (dns ++ [t]) = strs dns ++ [.string t] by simp [strs]]
    exact hO
  obtain ⟨A', c', rfl, b1, b2, b3, k⟩ := Box.add (lo := E.B0) d1 hu (fun e => hE.ne e.symm) hE.db0 hE.le hE.db1 hE.ub1 d2 (fun a b ha hb e => hne b a hb ha e.symm) hO' (.inr ⟨o, hG⟩) (hat.imp id fun e => ⟨_, e, by simp⟩)
  exact ⟨⟨h.mc.ko k rfl rfl (.inl rfl) (Nat.le_refl _), h.mbk.ko k rfl rfl rfl rfl rfl (Nat.le_refl _), ⟨uA, A', b2, b1, fun a b ha hb e => b3 b a hb ha e.symm⟩, h.mh.ko k rfl rfl rfl rfl (Nat.le_refl _), h.mo.ko k rfl, Nat.le_trans h.b1 k.size⟩, k⟩
theorem RepIs.ko {S : List TypeId} {lo B0 : Nat} {m : Bool} (h : RepIs B0 W x hs os) (k : Ko S m lo W W') (hS : S.contains 81 = false) (hlo : B0 ≤ lo) : RepIs B0 W' x hs os := fun ht => by
  obtain ⟨r1, r2, r3, r4⟩ := h ht
  exact ⟨r1, r2, r3, r4.imp id fun ⟨rs, q1, q2, q3⟩ => ⟨rs, q1, k.rd q2 hS hlo, q3⟩⟩
/-- The client's turn: only its block is written. -/
theorem Mem.cli (h : Mem E x rq s reps rows ups dns v12 hs v13 os W) (hE : EnvOk E) (hg : W.grownBy W' (some E.g)) {x' : CliR} {rq' : List OpR} {s' : ByteArray} (hc : CliAt W' E.g E.k x') (hr : x'.waits = true → CReqIn E.B0 W' x' rq' s') : Mem E x' rq' s' reps rows ups dns v12 hs v13 os W' := by
  have k : Ko [74] false E.B0 W W' := Ko.of_gb hg h.mc.at_ rfl hE.g0
  exact ⟨⟨hc, h.mc.one.keep (by obtain ⟨cs, of', _, hb, _⟩ := h.mc.one; rw [k.blk hb rfl, hb]), hr⟩, h.mbk.ko k rfl rfl rfl rfl rfl (Nat.le_refl _), h.ml.ko k rfl rfl, h.mh.ko k rfl rfl rfl rfl (Nat.le_refl _), h.mo.ko k rfl, Nat.le_trans h.b1 k.size⟩
theorem Mem.cliK (h : Mem E x rq s reps rows ups dns v12 hs v13 os W) (hE : EnvOk E) (hg : W.grownBy W' (some E.g)) : Ko [74] false E.B0 W W' := Ko.of_gb hg h.mc.at_ rfl hE.g0
theorem CReqIn.ko {S : List TypeId} {lo B0 : Nat} {m : Bool} (h : CReqIn B0 W x rq s) (k : Ko S m lo W W') (hS : S.contains 79 = false) (hlo : B0 ≤ lo) : CReqIn B0 W' x rq s := ⟨k.rd h.rd hS hlo, h.fits, h.ok, h.enc, h.small⟩
theorem own_ko {B T k n : Nat} {v : Value} {xs : List Value} {o : Obj} (hown : W.ownsRow B T k v n xs) (hG : (W.alloc o).grownBy W' v.ownBlock) (hB : B ≤ W.heap.size) : Ko [T] false B W W' := by
  have hG' := gb_trans (gb_below ((Below.refl W.heap.size W).alloc (Nat.le_refl _) o) v.ownBlock) hG
  cases hj : v.ownBlock with
  | none =>
    rw [hj] at hG'
    exact Ko.of_below ⟨hG'.os, hG'.tape, hG'.output, hG'.size, fun k hk => hG'.block k hk (by simp)⟩ hB
  | some j =>
    rw [hj] at hG'
    obtain ⟨⟨cs, fr, hc⟩, hb⟩ := own_istM hown j hj
    exact Ko.of_gb hG' hc (by simp) hb
theorem UpOk.of_req {ol : List (List OpR)} {m : Nat} {rq : List OpR} {s : ByteArray} (h1 : 1 ≤ m) (h2 : m ≤ ol.length) (h3 : rq = ol.getD (m - 1) []) (h4 : oencP 7 (m : Int) rq = (s, 0)) (h5 : s.size ≤ 60000) : UpOk ol (sentB 1 s) :=
  ⟨m - 1, s, by omega, by rw [← h3, ← h4]; congr 1; omega, h5, rfl⟩
end
end Go.Proofs.YtallnibjmffahaaGreatDoor

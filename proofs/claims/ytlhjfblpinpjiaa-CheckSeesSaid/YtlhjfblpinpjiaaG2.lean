/- Requests one by one in memory; what is built of them; small helpers. made: a history of requests that a table has done one by one. -/
import Derived.Test.YtlhjfblpinpjiaaFc
import Derived.Deep.Cut
import Derived.Deep.RegionHeld3
set_option linter.unusedVariables false
set_option linter.unusedSimpArgs false
namespace Go.Proofs.Ytlhjfblpinpjiaa
open Go.RowKit

def amongP (x n : Int) : Int := ((x.tmod n) + n).tmod n
theorem amongP_range (x : Int) {n : Int} (hn : 0 < n) : 0 ≤ amongP x n ∧ amongP x n < n := by
  unfold amongP
  have h1 := Int.lt_tmod_of_pos x hn
  have h2 := Int.tmod_lt_of_pos x hn
  exact ⟨Int.tmod_nonneg _ (by omega), Int.tmod_lt_of_pos _ hn⟩
theorem among_calls (x n : Int) (hn : 0 < n) (hn2 : n ≤ 1000) (w : World) :
    Calls Try.prog 14 #[.int .i64 x, .int .i64 n] w fun e w' => e = .returned (.int .i64 (amongP x n)) ∧ w' = w := by
  have h1 := Int.lt_tmod_of_pos x hn
  have h2 := Int.tmod_lt_of_pos x hn
  have h3 := amongP_range x hn
  unfold amongP at h3
  have e1 : IntKind.i64.wrap (x.tmod n) = x.tmod n := IntWalk.i64_in _ (by omega)
  have e2 : IntKind.i64.wrap (x.tmod n + n) = x.tmod n + n := IntWalk.i64_in _ (by omega)
  have e3 : IntKind.i64.wrap ((x.tmod n + n).tmod n) = (x.tmod n + n).tmod n := IntWalk.i64_in _ (by omega)
  have hn0 : n ≠ 0 := by omega
  unfold amongP
  have e4 := Int.tmod_eq_emod_of_nonneg (a := x.tmod n + n) (b := n) (by omega)
  go_enter Try.func14, Try.ntmps14
  go_wp2
  go_ret
  refine ⟨?_, rfl⟩
  rw [e4, Int.add_emod_right]
  rfl


theorem amongP60 (x : Int) : 0 ≤ amongP x 60 ∧ amongP x 60 ≤ 59 := by
  have := amongP_range x (n := 60) (by omega)
  omega
/-- A request, when it was asked and told: its words in memory. -/
structure TurnR where
  cl : Int
  sq : Int
  oA : Option Addr
  on : Nat
  oc : Nat
  before : Int
  behind : Int
  never : Bool
  ops : List OpR
def TurnR.enc (x : TurnR) : List Value := [.int .i64 x.cl, .int .i64 x.sq, .slice x.oA x.on x.oc, .int .i64 x.before, .int .i64 x.behind, .bool x.never]
structure TurnIn (base : Nat) (w : World) (x : TurnR) : Prop where
  rdo : Rd base 64 w 6 x.oA x.on x.oc (opCells x.ops)
  fits : ∀ y ∈ x.ops, Fits y
  obig : x.on ≤ 140737488355328
theorem TurnIn.below {base : Nat} {w w' : World} {x : TurnR} (h : TurnIn base w x) (hb : Below w.heap.size w w') : TurnIn base w' x := ⟨h.rdo.below hb, h.fits, h.obig⟩
structure Turns (base : Nat) (w : World) (A : Option Addr) (n c : Nat) (ts : List TurnR) : Prop where
  rd : Rd base 78 w 6 A n c (ts.flatMap TurnR.enc)
  ins : ∀ x ∈ ts, TurnIn base w x
  big : n ≤ 140737488355328
theorem Turns.below {base : Nat} {w w' : World} {A : Option Addr} {n c : Nat} {ts : List TurnR} (h : Turns base w A n c ts) (hb : Below w.heap.size w w') : Turns base w' A n c ts := ⟨h.rd.below hb, fun x hx => (h.ins x hx).below hb, h.big⟩
/-- What was built right: the i-th request's place in time is 10 i + 100. -/
structure BuiltAt (cs : List CallR) (i : Nat) (y : CallR) : Prop where
  req : reqOk y.cl y.sq y.ops = true
  a0 : 10 * (i : Int) + 41 ≤ y.asked
  a1 : y.asked ≤ 10 * (i : Int) + 100
  t : y.told = 0 ∨ (10 * (i : Int) + 100 ≤ y.told ∧ y.told ≤ 10 * (i : Int) + 159)
  said : 0 < y.told → y.told_ (cs.take i) = true
structure Built (cs : List CallR) : Prop where
  len : cs.length ≤ 40
  at_ : ∀ (i : Nat) (hi : i < cs.length), BuiltAt cs i cs[i]
theorem Built.nil : Built [] := ⟨by simp, fun i hi => absurd hi (Nat.not_lt_zero _)⟩
theorem Built.snoc {cs : List CallR} (h : Built cs) {y : CallR} (hl : cs.length < 40) (hy : BuiltAt cs cs.length y) : Built (cs ++ [y]) := by
  refine ⟨by simp; omega, fun i hi => ?_⟩
  rcases Nat.lt_or_ge i cs.length with h1 | h1
  · have := h.at_ i h1
    rw [List.getElem_append_left h1]
    exact ⟨this.req, this.a0, this.a1, this.t, fun h2 => by rw [List.take_append_of_le_length (Nat.le_of_lt h1)]; exact this.said h2⟩
  · obtain rfl : i = cs.length := by simp at hi; omega
    rw [List.getElem_concat_length rfl]
    exact ⟨hy.req, hy.a0, hy.a1, hy.t, fun h2 => by rw [List.take_append_of_le_length (Nat.le_refl _)]; exact hy.said h2⟩

/-- 0, 1, .. -/
def rangeI (n : Nat) : List Int := (List.range n).map (fun (i : Nat) => (i : Int))
theorem rangeI_succ (n : Nat) : rangeI (n + 1) = rangeI n ++ [(n : Int)] := by simp [rangeI, List.range_succ]
theorem rangeI_len (n : Nat) : (rangeI n).length = n := by simp [rangeI]

set_option maxHeartbeats 4000000 in
set_option maxRecDepth 100000 in
theorem numbers_calls (base n : Nat) (hn : n ≤ 1000) (w : World) (hbs : base ≤ w.heap.size) :
    Calls Try.prog 13 #[.int .i64 n] w fun e w' => ∃ A c, e = .returned (.slice A n c) ∧ w'.ownsRow w.heap.size 3 1 (.slice A n c) n (intCs (rangeI n)) ∧ Below w.heap.size w w' := by
  go_enter Try.func13, Try.ntmps13
  go_wp2_with fail
  go_loopw [3, 6] (fun s3 s6 wr => ∃ (k : Nat) (A : Option Addr) (c : Nat), s6 = .int .i64 k ∧ s3 = .slice A k c ∧ k ≤ n ∧ Asd (Below w.heap.size w wr) ∧ Asd (wr.ownsRow w.heap.size 3 1 (.slice A k c) k (intCs (rangeI k)))) (fun _ s6 _ => n - (intOf s6).toNat)
  case atStart => exact ⟨0, none, 0, rfl, rfl, Nat.zero_le _, ⟨Below.refl _ _⟩, ⟨World.ownsRow_nil _ _ _ _⟩⟩
  case round =>
    obtain ⟨k, A, c, rfl, rfl, hkn, BW, OW⟩ := hrel
    by_cases hlt : k < n
    · go_wp2_with (at_builtin; refine wpList_append_mine (base := base) (own := w.heap.size) (v := .slice A k c) (n := k) (m := 1) (xs := intCs (rangeI k)) (ys := [.int .i64 k]) rfl (.tmp 9) (.tmp 11) 24 rfl elt_i rfl rfl (OW.out.alloc _) (Rd.new_ rfl rfl) (fun u hu => by simp at hu; subst hu; rfl) (by simp only [maxLen]; omega) (by omega) (by have := BW.out.size; simp; omega) ?_; intro v' w2 hO2 hG2; obtain ⟨A2, c2, rfl, hR2⟩ := Rd.of_own (base := base) hO2)
      have O2 : Asd (w2.ownsRow w.heap.size 3 1 (.slice A2 (k + 1) c2) (k + 1) (intCs (rangeI (k + 1)))) := ⟨by
        rw [rangeI_succ, ← intCs_snoc]; exact hO2⟩
      have B2 : Asd (Below w.heap.size w w2) := ⟨(BW.out.alloc BW.out.size _).grown hG2 (by have := BW.out.size; simp; omega) (fun j hj => own_ge OW.out hj)⟩
      clear hO2 hG2 hR2
      go_roundw
      case measure => simp [intOf]; omega
      case rel => exact ⟨k + 1, A2, c2, by go_num, rfl, by omega, B2, O2⟩
    · obtain rfl : k = n := by omega
      go_wp2_with fail
      go_ret
      exact ⟨A, c, rfl, OW.out, BW.out⟩


/-- What made's loop keeps. -/
structure MadeS (base : Nat) (w wr : World) (g : Nat) (A : Option Addr) (n c : Nat) (hs : List CallR) : Prop where
  below : Below w.heap.size w wr
  tab : ∃ A' c', Tab base wr g (rowsP0 hs) A' c'
  own : wr.ownsRow w.heap.size 44 10 (.slice A n c) n (hs.flatMap CallR.enc)
  ins : ∀ x ∈ hs, CallIn base wr x
  built : Built hs
theorem MadeS.len {base : Nat} {w wr : World} {g : Nat} {A : Option Addr} {n c : Nat} {hs : List CallR} (h : MadeS base w wr g A n c hs) : hs.length = n := by
  have h1 := h.own.1
  rw [flat_len CallR.enc 10 (fun _ => rfl)] at h1
  omega
theorem MadeS.next {base : Nat} {w wr w' : World} {g : Nat} {A : Option Addr} {n c : Nat} {hs : List CallR} (h : MadeS base w wr g A n c hs) (hb : Below wr.heap.size wr w') : MadeS base w w' g A n c hs :=
  ⟨h.below.trans (hb.mono h.below.size), by
    obtain ⟨A', c', hT⟩ := h.tab
    exact ⟨A', c', hT.below hb⟩, h.own.kept (gb_below hb none) (by cases (Value.slice A n c).ownBlock <;> simp), fun x hx => (h.ins x hx).below hb, h.built⟩
theorem Turns.cells {base : Nat} {w : World} {b off n c : Nat} {ts : List TurnR} (h : Turns base w (some ⟨b, off, none⟩) n c ts) {j : Nat} (hj : j < n) (hl : j < ts.length) : b < w.heap.size ∧ ∀ t v, (ts[j]).enc[t]? = some v → w.cell? ⟨b, off + j * 6 + t, none⟩ = some v := by
  obtain ⟨b', off', e, hbl, hil, hcs⟩ := h.rd.at_enc (enc := TurnR.enc) (fun _ => rfl) (by omega) hj
  injection e with e
  injection e with e1 e2
  subst e1 e2
  exact ⟨hbl, hcs⟩
/-- made's state, a request done and not yet noted. -/
structure MadeM (base : Nat) (w wr : World) (g : Nat) (A : Option Addr) (n c : Nat) (hs : List CallR) (dd : DoR) (A1 : Option Addr) (n1 c1 : Nat) (rr : List RRes) (fb : Nat) : Prop where
  below : Below w.heap.size w wr
  tab : ∃ A' c', Tab base wr g dd.rows A' c'
  own : wr.ownsRow w.heap.size 44 10 (.slice A n c) n (hs.flatMap CallR.enc)
  ins : ∀ x ∈ hs, CallIn base wr x
  rdr : Rd base 47 wr 4 A1 n1 c1 (resCells rr)
  rins : All2 (RIn base wr) rr dd.res
  blk : wr.heap[fb]? = some (.cells #[.int .i64 dd.at_, .int .i64 dd.code] 35 (0, 0))
theorem MadeM.next {base : Nat} {w wr w' : World} {g : Nat} {A : Option Addr} {n c : Nat} {hs : List CallR} {dd : DoR} {A1 : Option Addr} {n1 c1 : Nat} {rr : List RRes} {fb : Nat} (h : MadeM base w wr g A n c hs dd A1 n1 c1 rr fb) (hb : Below wr.heap.size wr w') : MadeM base w w' g A n c hs dd A1 n1 c1 rr fb :=
  ⟨h.below.trans (hb.mono h.below.size), by
    obtain ⟨A', c', hT⟩ := h.tab
    exact ⟨A', c', hT.below hb⟩, h.own.kept (gb_below hb none) (by cases (Value.slice A n c).ownBlock <;> simp), fun x hx => (h.ins x hx).below hb, h.rdr.below hb, RIns.below h.rins hb, (hb.block _ (Array.getElem?_eq_some_iff.1 h.blk).1).trans h.blk⟩
theorem MadeM.add {base : Nat} {w wr w' : World} {g : Nat} {A A2 : Option Addr} {n c c2 : Nat} {hs : List CallR} {dd : DoR} {A1 : Option Addr} {n1 c1 : Nat} {rr : List RRes} {fb : Nat} (h : MadeM base w wr g A n c hs dd A1 n1 c1 rr fb) (hbs : base ≤ w.heap.size) (hb : Built hs)
    (y : CallR) (hy : CallIn base wr y) (hyb : BuiltAt hs hs.length y) (hl : hs.length < 40) (hdd : dd.rows = (doP (rowsP0 hs) y.ops).rows) (o : Obj)
    (hO : w'.ownsRow w.heap.size 44 10 (.slice A2 (n + 1) c2) (n + 1) (hs.flatMap CallR.enc ++ y.enc)) (hG : (wr.alloc o).grownBy w' (Value.slice A n c).ownBlock) : MadeS base w w' g A2 (n + 1) c2 (hs ++ [y]) := by
  have hal : Below wr.heap.size wr (wr.alloc o) := (Below.refl _ _).alloc (Nat.le_refl _) _
  have hbl : Below w.heap.size w (wr.alloc o) := h.below.trans (hal.mono h.below.size)
  have hgr : ∀ j, (Value.slice A n c).ownBlock = some j → IsT (wr.alloc o) j 44 ∧ base ≤ j := fun j hj => by
    have := own_ist (h.own.alloc o) j hj
    exact ⟨this.1, Nat.le_trans hbs this.2⟩
  obtain ⟨A', c', hT⟩ := h.tab
  refine ⟨hbl.grown hG hbl.size (fun j hj => own_ge h.own hj), ⟨A', c', ?_⟩, ?_, fun x hx => ?_, hb.snoc hl hyb⟩
  · rw [rowsP0_snoc, ← hdd]
    exact (hT.below hal).grownR hG hgr (by decide) (by decide)
  · rw [List.flatMap_append]
    simpa using hO
  · rcases List.mem_append.1 hx with hx | hx
    · exact ((h.ins x hx).below hal).grownR hG hgr (by decide) (by decide) (by decide)
    · obtain rfl := List.mem_singleton.1 hx
      exact (hy.below hal).grownR hG hgr (by decide) (by decide) (by decide)
theorem MadeM.turned {base : Nat} {w wr w' : World} {g : Nat} {A : Option Addr} {n c : Nat} {hs : List CallR} {dd : DoR} {A1 : Option Addr} {n1 c1 : Nat} {rr : List RRes} {fb cb : Nat} (h : MadeM base w wr g A n c hs dd A1 n1 c1 rr fb) (hbs : base ≤ w.heap.size)
    (hG : wr.grownBy w' (some cb)) (hT : IsT wr cb 44) (hge : w.heap.size ≤ cb) (hown : (Value.slice A n c).ownBlock ≠ some cb) : MadeM base w w' g A n c hs dd A1 n1 c1 rr fb := by
  have hgr : ∀ j, some cb = some j → IsT wr j 44 ∧ base ≤ j := fun j hj => by
    injection hj with hj
    subst hj
    exact ⟨hT, Nat.le_trans hbs hge⟩
  obtain ⟨A', c', hTab⟩ := h.tab
  have hne : fb ≠ cb := IsT.ne (⟨_, _, h.blk⟩ : IsT wr fb 35) hT (by decide)
  exact ⟨h.below.grown hG h.below.size (fun j hj => by injection hj with hj; omega), ⟨A', c', hTab.grownR hG hgr (by decide) (by decide)⟩, h.own.kept hG (.inr hown), fun x hx => (h.ins x hx).grownR hG hgr (by decide) (by decide) (by decide),
    h.rdr.grownR hG hgr (by decide), RIns.grownR h.rins hG hgr (by decide), (hG.block _ (Array.getElem?_eq_some_iff.1 h.blk).1 (by intro e; injection e with e; exact hne e)).trans h.blk⟩
theorem gb_cell (W : World) (b o : Nat) (v : Value) : W.grownBy (W.setCell ⟨b, o, none⟩ v) (some b) :=
  ⟨rfl, rfl, rfl, by simp [World.setCell], fun k hk hne => Below.heap_setCell W ⟨b, o, none⟩ v k (fun e => hne (by rw [e]))⟩
/-- A call that was never told. -/
theorem never_cells {w : World} {cb : Nat} {v0 v1 v2 v3 v4 v5 v6 v7 v8 v9 u1 u5 u6 u7 u8 u9 : Value} {T : TypeId} (h : w.heap[cb]? = some (.cells #[v0, v1, v2, v3, v4, v5, v6, v7, v8, v9] T (0, 0))) :
    ((((((w.setCell ⟨cb, 1, none⟩ u1).setCell ⟨cb, 5, none⟩ u5).setCell ⟨cb, 6, none⟩ u6).setCell ⟨cb, 7, none⟩ u7).setCell ⟨cb, 8, none⟩ u8).setCell ⟨cb, 9, none⟩ u9).heap[cb]? = some (.cells #[v0, u1, v2, v3, v4, u5, u6, u7, u8, u9] T (0, 0)) ∧
      w.grownBy ((((((w.setCell ⟨cb, 1, none⟩ u1).setCell ⟨cb, 5, none⟩ u5).setCell ⟨cb, 6, none⟩ u6).setCell ⟨cb, 7, none⟩ u7).setCell ⟨cb, 8, none⟩ u8).setCell ⟨cb, 9, none⟩ u9) (some cb) :=
  ⟨by simp [World.setCell, Array.getElem?_modify, h], gb_trans (gb_trans (gb_trans (gb_trans (gb_trans (gb_cell _ _ _ _) (gb_cell _ _ _ _)) (gb_cell _ _ _ _)) (gb_cell _ _ _ _)) (gb_cell _ _ _ _)) (gb_cell _ _ _ _)⟩
def MadePost (base : Nat) (w : World) (e : Ending) (w' : World) : Prop :=
  ∃ A n c hs, e = .returned (.slice A n c) ∧ w'.ownsRow w.heap.size 44 10 (.slice A n c) n (hs.flatMap CallR.enc) ∧ (∀ x ∈ hs, CallIn base w' x) ∧ Built hs ∧ Below w.heap.size w w'

set_option maxHeartbeats 16000000 in
set_option maxRecDepth 100000 in
theorem made_calls {base : Nat} {w : World} {A : Option Addr} {n c : Nat} {ts : List TurnR} (hh : Turns base w A n c ts) (hbs : base ≤ w.heap.size) :
    Calls Try.prog 12 #[.slice A n c] w (MadePost base w) := by
  have hn := hh.rd.count (enc := TurnR.enc) (fun _ => rfl) (by omega)
  have hnb := hh.big
  have H := Asd.mk (fun W (h : Below w.heap.size w W) => hh.below h)
  have N := Asd.mk hn
  have NEW := Asd.mk (New_calls base w hbs)
  clear hh hn
  go_enter Try.func12, Try.ntmps12
  go_wp2_with fail
  refine NEW.out.mono ?_
  rintro e w1 ⟨g, rfl, hT1, hg1, hb1⟩
  have M1 : Asd (MadeS base w w1 g none 0 0 []) := ⟨⟨hb1, ⟨none, 0, hT1⟩, World.ownsRow_nil _ _ _ _, fun x hx => (by cases hx), Built.nil⟩⟩
  clear hT1 hb1 NEW
  go_wp2_with fail
  go_loopw [4, 5] (fun s4 s5 wr => ∃ (k : Nat) (B : Option Addr) (m d : Nat) (hs : List CallR), s5 = .int .i64 k ∧ s4 = .slice B m d ∧ k ≤ n ∧ m ≤ 40 ∧ Asd (MadeS base w wr g B m d hs)) (fun _ s5 _ => n - (intOf s5).toNat)
  case atStart => exact ⟨0, none, 0, 0, [], rfl, rfl, Nat.zero_le _, by omega, M1⟩
  case round =>
    obtain ⟨k, B, m, d, hs, rfl, rfl, hkn, hm4, MS⟩ := hrel
    have fin : MadePost base w (.returned (.slice B m d)) wr := ⟨B, m, d, hs, rfl, MS.out.own, MS.out.ins, MS.out.built, MS.out.below⟩
    have FIN := Asd.mk fin
    clear fin
    by_cases hlt : k < n
    · by_cases hlt4 : m < 40
      · obtain ⟨b, off, rfl, hbl, hil, hcs⟩ := (H.out wr MS.out.below).rd.at_enc (enc := TurnR.enc) (fun _ => rfl) (by omega) hlt
        have hcc : k < c := Nat.lt_of_lt_of_le hlt (H.out wr MS.out.below).rd.cap
        have hin := fun W (h : Below w.heap.size w W) => (H.out W h).ins _ (List.getElem_mem hil)
        generalize hy : ts[k] = q at hcs hin
        have HQ := Asd.mk hy
        have c0 := hcs 0 _ rfl
        have c1 := hcs 1 _ rfl
        have c2 := hcs 2 _ rfl
        have c3 := hcs 3 _ rfl
        have c4 := hcs 4 _ rfl
        have c5 := hcs 5 _ rfl
        rw [Nat.add_zero] at c0
        have IN := Asd.mk hin
        have ck := CheckAll_calls q.cl q.sq (hin wr MS.out.below).rdo (hin wr MS.out.below).fits (hin wr MS.out.below).obig
        clear hy hcs hin
        cases hr : reqOk q.cl q.sq q.ops with
        | false =>
          rw [hr] at ck
          simp only [Bool.false_eq_true, if_false] at ck
          clear hr
          go_wp2_with fail
          refine ck.mono ?_
          clear ck
          rintro e w2 ⟨rfl, hb2⟩
          have MS2 := Asd.mk (MS.out.next hb2)
          clear hb2
          go_wp2_with fail
          go_roundw
          case measure => simp [intOf]; omega
          case rel => exact ⟨k + 1, B, m, d, hs, by go_num, rfl, by omega, hm4, MS2⟩
        | true =>
          rw [hr] at ck
          simp only [if_true] at ck
          have RQ := Asd.mk hr
          clear hr
          go_wp2_with fail
          refine ck.mono ?_
          clear ck
          rintro e w2 ⟨rfl, hb2⟩
          have MS2 := Asd.mk (MS.out.next hb2)
          have e0 := (hb2.cell (p := ⟨b, off + k * 6, none⟩) hbl).trans c0
          have e1 := (hb2.cell (p := ⟨b, off + k * 6 + 1, none⟩) hbl).trans c1
          have e2 := (hb2.cell (p := ⟨b, off + k * 6 + 2, none⟩) hbl).trans c2
          have e3 := (hb2.cell (p := ⟨b, off + k * 6 + 3, none⟩) hbl).trans c3
          have e4 := (hb2.cell (p := ⟨b, off + k * 6 + 4, none⟩) hbl).trans c4
          have e5 := (hb2.cell (p := ⟨b, off + k * 6 + 5, none⟩) hbl).trans c5
          have hbl2 : b < w2.heap.size := Nat.lt_of_lt_of_le hbl hb2.size
          have E := Asd.mk (And.intro e0 (And.intro e1 (And.intro e3 (And.intro e4 (And.intro e5 hbl2)))))
          clear hb2 c0 c1 c2 c3 c4 c5 e0 e1 e3 e4 e5 FIN M1 MS
          obtain ⟨A', c', hT⟩ := MS2.out.tab
          have hrr := doP_res_rows hT.big hT.srt q.ops
          have hgT : IsT w2 g 88 := ⟨_, _, hT.blk⟩
          have hdo := Do_calls hT q.ops q.oA q.on q.oc (IN.out w2 MS2.out.below).rdo (IN.out w2 MS2.out.below).fits
          have hgl := hT.lt
          have DOC := Asd.mk hdo
          have RR := Asd.mk hrr
          have GT := Asd.mk (And.intro hgT hT.ge)
          clear hdo hT hrr hgT
          go_wp2_with fail
          refine DOC.out.mono ?_
          clear DOC
          rintro e w3 ⟨A1, n1, cc1, rr1, rfl, hg3, hT3, hO3, hR3⟩
          have M4 : Asd (MadeM base w (w3.alloc (.cells #[.int .i64 (doP (rowsP0 hs) q.ops).at_, .int .i64 (doP (rowsP0 hs) q.ops).code] 35)) g B m d hs (doP (rowsP0 hs) q.ops) A1 n1 cc1 rr1 w3.heap.size) := by
            have hal : Below w3.heap.size w3 (w3.alloc (.cells #[.int .i64 (doP (rowsP0 hs) q.ops).at_, .int .i64 (doP (rowsP0 hs) q.ops).code] 35)) := (Below.refl _ _).alloc (Nat.le_refl _) _
            obtain ⟨A3, c3, hT3⟩ := hT3
            have hgr : ∀ j, some g = some j → IsT w2 j 88 ∧ base ≤ j := fun j hj => by
              injection hj with hj
              subst hj
              exact GT.out
            obtain ⟨A1', cc1', hsl, hRs⟩ := Rd.of_own (base := base) hO3
            injection hsl with hA1 _ hc1
            subst hA1 hc1
            have hb3 : Below w.heap.size w w3 := MS2.out.below.grown hg3 MS2.out.below.size (fun j hj => by injection hj with hj; omega)
            exact ⟨⟨hb3.trans (hal.mono hb3.size), ⟨A3, c3, hT3.below hal⟩, (own_grownR MS2.out.own hg3 (fun j hj => (hgr j hj).1) (by decide)).kept (gb_below hal none) (by cases (Value.slice B m d).ownBlock <;> simp),
              fun x hx => ((MS2.out.ins x hx).grownR hg3 hgr (by decide) (by decide) (by decide)).below hal, hRs.below hal, RIns.below (RMs.ins hR3 RR.out) hal, heap_alloc_new _ _⟩⟩
          have BU := Asd.mk MS2.out.built
          have LN := Asd.mk MS2.out.len
          clear hg3 hT3 hO3 hR3 MS2 E GT RR
          go_upto_region 8 with fail
          generalize w3.alloc (.cells #[.int .i64 (doP (rowsP0 hs) q.ops).at_, .int .i64 (doP (rowsP0 hs) q.ops).code] 35) = w4 at M4 ⊢
          generalize w3.heap.size = fb at M4 ⊢
          go_upto_region 9 with fail
          obtain ⟨hb4, hcs4⟩ := (H.out w4 M4.out.below).cells hlt hil
          have hq2 : ts[k] = q := HQ.out
          rw [hq2] at hcs4
          have e0 := hcs4 0 _ rfl
          have e1 := hcs4 1 _ rfl
          have e2 := hcs4 2 _ rfl
          have e3 := hcs4 3 _ rfl
          have e4 := hcs4 4 _ rfl
          have e5 := hcs4 5 _ rfl
          rw [Nat.add_zero] at e0
          obtain ⟨y0, y1, y2⟩ := fault_cells M4.out.blk
          have E5 := Asd.mk e5
          obtain ⟨am, ham⟩ : ∃ am : Int → Int, am = fun x => amongP x 60 := ⟨_, rfl⟩
          have hab : ∀ x, 0 ≤ am x ∧ am x ≤ 59 := fun x => by rw [ham]; exact amongP60 x
          have AC : Asd (∀ x W, Calls Try.prog 14 #[.int .i64 x, .int .i64 60] W fun e w' => e = .returned (.int .i64 (am x)) ∧ w' = W) := ⟨fun x W => by rw [ham]; exact among_calls _ 60 (by omega) (by omega) W⟩
          obtain ⟨xa0, xa1⟩ := hab q.before
          obtain ⟨xb0, xb1⟩ := hab q.behind
          have hk0 : (0 : Int) ≤ (k : Int) := by omega
          have hk1 : (k : Int) < (c : Int) := by omega
          have hm0 : (0 : Int) ≤ (m : Int) := by omega
          clear hcs4 ham hab hq2 e5
          have nn0 := World.new_ne w4 ⟨b, off + k * 6, none⟩ e0
          have nn1 := World.new_ne w4 ⟨b, off + k * 6 + 1, none⟩ e1
          have nn2 := World.new_ne w4 ⟨b, off + k * 6 + 2, none⟩ e2
          have nn3 := World.new_ne w4 ⟨b, off + k * 6 + 3, none⟩ e3
          have nn4 := World.new_ne w4 ⟨b, off + k * 6 + 4, none⟩ e4
          have nn5 := World.new_ne w4 ⟨fb, 0, none⟩ y0
          have nn6 := World.new_ne w4 ⟨fb, 1, none⟩ y1
          generalize hfa : (doP (rowsP0 hs) q.ops).at_ = fa at y0 y1 ⊢
          generalize hfc : (doP (rowsP0 hs) q.ops).code = fc at y0 y1 ⊢
          have FA := Asd.mk hfa
          have FC := Asd.mk hfc
          clear hfa hfc
          go_region_held3 (fun w' => w'.cell? ⟨b, off + k * 6, none⟩ = some (.int .i64 q.cl) ∧ w'.cell? ⟨b, off + k * 6 + 1, none⟩ = some (.int .i64 q.sq) ∧ w'.cell? ⟨b, off + k * 6 + 2, none⟩ = some (.slice q.oA q.on q.oc) ∧ w'.cell? ⟨b, off + k * 6 + 3, none⟩ = some (.int .i64 q.before) ∧ w'.cell? ⟨b, off + k * 6 + 4, none⟩ = some (.int .i64 q.behind) ∧ w'.cell? ⟨fb, 0, none⟩ = some (.int .i64 fa) ∧ w'.cell? ⟨fb, 1, none⟩ = some (.int .i64 fc))
            (go_keep) ((go_at_call 14; refine (AC.out _ _).mono ?_; rintro e w5 ⟨rfl, rfl⟩))
          all_goals
            rw [IntWalk.i64_in (10 * (m : Int) + 100 - am q.before) (by omega), IntWalk.i64_in (10 * (m : Int) + 100 + am q.behind) (by omega)]
            obtain ⟨ta, hta⟩ : ∃ ta, 10 * (m : Int) + 100 - am q.before = ta := ⟨_, rfl⟩
            obtain ⟨tb, htb⟩ : ∃ tb, 10 * (m : Int) + 100 + am q.behind = tb := ⟨_, rfl⟩
            have TA : Asd (10 * (m : Int) + 41 ≤ ta ∧ ta ≤ 10 * (m : Int) + 100) := ⟨by omega⟩
            have TB : Asd (10 * (m : Int) + 100 ≤ tb ∧ tb ≤ 10 * (m : Int) + 159) := ⟨by omega⟩
            rw [hta, htb]
            have hal : Below w4.heap.size w4 (w4.alloc (.cells #[.int .i64 ta, .int .i64 tb, .int .i64 q.cl, .int .i64 q.sq, .slice q.oA q.on q.oc, .int .i64 0, .int .i64 0, .slice A1 n1 cc1, .int .i64 fa, .int .i64 fc] 44)).drew := ((Below.refl _ _).alloc (Nat.le_refl _) _).drew
            have M5 := Asd.mk (M4.out.next hal)
            have K5 : Asd ((w4.alloc (.cells #[.int .i64 ta, .int .i64 tb, .int .i64 q.cl, .int .i64 q.sq, .slice q.oA q.on q.oc, .int .i64 0, .int .i64 0, .slice A1 n1 cc1, .int .i64 fa, .int .i64 fc] 44)).drew.heap[w4.heap.size]? = some (.cells #[.int .i64 ta, .int .i64 tb, .int .i64 q.cl, .int .i64 q.sq, .slice q.oA q.on q.oc, .int .i64 0, .int .i64 0, .slice A1 n1 cc1, .int .i64 fa, .int .i64 fc] 44 (0, 0))) := ⟨heap_alloc_new w4 _⟩
            have CB : Asd (w.heap.size ≤ w4.heap.size) := ⟨M4.out.below.size⟩
            have OB : Asd ((Value.slice B m d).ownBlock ≠ some w4.heap.size) := ⟨fun e => by have := (M4.out.own.lt _ e).2; omega⟩
            have e9 := (hal.cell (p := ⟨b, off + k * 6 + 5, none⟩) hb4).trans E5.out
            clear hta htb hal e0 e1 e2 e3 e4 y0 y1 y2 nn0 nn1 nn2 nn3 nn4 nn5 nn6 AC xa0 xa1 xb0 xb1 E5 M4
            generalize (w4.alloc (.cells #[.int .i64 ta, .int .i64 tb, .int .i64 q.cl, .int .i64 q.sq, .slice q.oA q.on q.oc, .int .i64 0, .int .i64 0, .slice A1 n1 cc1, .int .i64 fa, .int .i64 fc] 44)).drew = w5 at M5 K5 e9 ⊢
            generalize w4.heap.size = cb at K5 CB OB hb4 ⊢
            have RBN : Asd (n1 ≤ 140737488355328) := ⟨by
              have h1 := M5.out.rdr.count (enc := RRes.enc) (fun _ => rfl) (by omega)
              have h2 := All2.len M5.out.rins
              have h3 := doP_res_len (rowsP0 hs) q.ops
              have h4 := (IN.out w5 M5.out.below).rdo.count (enc := OpR.enc) (fun _ => rfl) (by omega)
              have h5 := (IN.out w5 M5.out.below).obig
              omega⟩
            cases hnv : q.never with
            | false =>
              rw [hnv] at e9
              have NV := Asd.mk hnv
              clear hnv
              have z0 := (cell_of_row w5 cb 0 _ _ _ K5.out).trans rfl
              have z1 := (cell_of_row w5 cb 1 _ _ _ K5.out).trans rfl
              have z2 := (cell_of_row w5 cb 2 _ _ _ K5.out).trans rfl
              have z3 := (cell_of_row w5 cb 3 _ _ _ K5.out).trans rfl
              have z4 := (cell_of_row w5 cb 4 _ _ _ K5.out).trans rfl
              have z5 := (cell_of_row w5 cb 5 _ _ _ K5.out).trans rfl
              have z6 := (cell_of_row w5 cb 6 _ _ _ K5.out).trans rfl
              have z7 := (cell_of_row w5 cb 7 _ _ _ K5.out).trans rfl
              have z8 := (cell_of_row w5 cb 8 _ _ _ K5.out).trans rfl
              have z9 := (cell_of_row w5 cb 9 _ _ _ K5.out).trans rfl
              go_wp2_with (at_builtin; refine wpList_append_mine (base := base) (own := w.heap.size) (v := .slice B m d) (n := m) (m := 1) (xs := hs.flatMap CallR.enc) (ys := [.int .i64 ta, .int .i64 tb, .int .i64 q.cl, .int .i64 q.sq, .slice q.oA q.on q.oc, .int .i64 0, .int .i64 0, .slice A1 n1 cc1, .int .i64 fa, .int .i64 fc]) rfl (.tmp 81) (.tmp 83) 22 rfl elt_call rfl rfl (M5.out.own.alloc _) (Rd.new_ rfl rfl) (calls_one [⟨ta, tb, q.cl, q.sq, q.oA, q.on, q.oc, 0, 0, A1, n1, cc1, fa, fc, q.ops, (doP (rowsP0 hs) q.ops).res, rr1⟩]) (by simp only [maxLen]; omega) (by omega) (by have := M5.out.below.size; simp; omega) ?_; intro v' w6 hO6 hG6; obtain ⟨A6, c6, rfl, hR6⟩ := Rd.of_own (base := base) hO6)
              have S6 : Asd (MadeS base w w6 g A6 (m + 1) c6 (hs ++ [⟨ta, tb, q.cl, q.sq, q.oA, q.on, q.oc, 0, 0, A1, n1, cc1, fa, fc, q.ops, (doP (rowsP0 hs) q.ops).res, rr1⟩])) :=
                ⟨M5.out.add hbs BU.out ⟨ta, tb, q.cl, q.sq, q.oA, q.on, q.oc, 0, 0, A1, n1, cc1, fa, fc, q.ops, (doP (rowsP0 hs) q.ops).res, rr1⟩
                  ⟨(IN.out w5 M5.out.below).rdo, (IN.out w5 M5.out.below).fits, (IN.out w5 M5.out.below).obig, M5.out.rdr, M5.out.rins, RBN.out⟩
                  ⟨RQ.out, by rw [LN.out]; exact TA.out.1, by rw [LN.out]; exact TA.out.2, by rw [LN.out]; exact .inr TB.out, fun _ => by
                    rw [List.take_of_length_le (Nat.le_refl _)]
                    unfold CallR.told_ CallR.said
                    simp [FA.out, FC.out]⟩ (by rw [LN.out]; exact hlt4) rfl _ hO6 hG6⟩
              clear hO6 hG6 hR6 z0 z1 z2 z3 z4 z5 z6 z7 z8 z9 e9
              go_roundw
              case measure => simp [intOf]; omega
              case rel => exact ⟨k + 1, A6, m + 1, c6, _, by go_num, rfl, by omega, by omega, S6⟩
            | true =>
              rw [hnv] at e9
              clear hnv
              have z1 := (cell_of_row w5 cb 1 _ _ _ K5.out).trans rfl
              have z5 := (cell_of_row w5 cb 5 _ _ _ K5.out).trans rfl
              have z6 := (cell_of_row w5 cb 6 _ _ _ K5.out).trans rfl
              have z7 := (cell_of_row w5 cb 7 _ _ _ K5.out).trans rfl
              have z8 := (cell_of_row w5 cb 8 _ _ _ K5.out).trans rfl
              have z9 := (cell_of_row w5 cb 9 _ _ _ K5.out).trans rfl
              have zf : ∀ i, w5.frozen? ⟨cb, i, none⟩ = false := fun i => by simp [World.frozen?, K5.out]
              go_upto_region 12 with fail
              obtain ⟨hK6, hG6⟩ := never_cells (u1 := .int .i64 0) (u5 := .int .i64 0) (u6 := .int .i64 0) (u7 := .slice none 0 0) (u8 := .int .i64 0) (u9 := .int .i64 0) K5.out
              have M6 := Asd.mk (M5.out.turned hbs hG6 ⟨_, _, K5.out⟩ CB.out OB.out)
              have K6 := Asd.mk hK6
              clear z1 z5 z6 z7 z8 z9 zf e9 hK6 hG6 M5 K5
              generalize ((((((w5.setCell ⟨cb, 1, none⟩ (.int .i64 0)).setCell ⟨cb, 5, none⟩ (.int .i64 0)).setCell ⟨cb, 6, none⟩ (.int .i64 0)).setCell ⟨cb, 7, none⟩ (.slice none 0 0)).setCell ⟨cb, 8, none⟩ (.int .i64 0)).setCell ⟨cb, 9, none⟩ (.int .i64 0)) = w7 at M6 K6 ⊢
              have z0 := (cell_of_row w7 cb 0 _ _ _ K6.out).trans rfl
              have z1 := (cell_of_row w7 cb 1 _ _ _ K6.out).trans rfl
              have z2 := (cell_of_row w7 cb 2 _ _ _ K6.out).trans rfl
              have z3 := (cell_of_row w7 cb 3 _ _ _ K6.out).trans rfl
              have z4 := (cell_of_row w7 cb 4 _ _ _ K6.out).trans rfl
              have z5 := (cell_of_row w7 cb 5 _ _ _ K6.out).trans rfl
              have z6 := (cell_of_row w7 cb 6 _ _ _ K6.out).trans rfl
              have z7 := (cell_of_row w7 cb 7 _ _ _ K6.out).trans rfl
              have z8 := (cell_of_row w7 cb 8 _ _ _ K6.out).trans rfl
              have z9 := (cell_of_row w7 cb 9 _ _ _ K6.out).trans rfl
              go_wp2_with (at_builtin; refine wpList_append_mine (base := base) (own := w.heap.size) (v := .slice B m d) (n := m) (m := 1) (xs := hs.flatMap CallR.enc) (ys := [.int .i64 ta, .int .i64 0, .int .i64 q.cl, .int .i64 q.sq, .slice q.oA q.on q.oc, .int .i64 0, .int .i64 0, .slice none 0 0, .int .i64 0, .int .i64 0]) rfl (.tmp 81) (.tmp 83) 22 rfl elt_call rfl rfl (M6.out.own.alloc _) (Rd.new_ rfl rfl) (calls_one [⟨ta, 0, q.cl, q.sq, q.oA, q.on, q.oc, 0, 0, none, 0, 0, 0, 0, q.ops, [], []⟩]) (by simp only [maxLen]; omega) (by omega) (by have := M6.out.below.size; simp; omega) ?_; intro v' w6 hO6 hG6; obtain ⟨A6, c6, rfl, hR6⟩ := Rd.of_own (base := base) hO6)
              have S6 : Asd (MadeS base w w6 g A6 (m + 1) c6 (hs ++ [⟨ta, 0, q.cl, q.sq, q.oA, q.on, q.oc, 0, 0, none, 0, 0, 0, 0, q.ops, [], []⟩])) :=
                ⟨M6.out.add hbs BU.out ⟨ta, 0, q.cl, q.sq, q.oA, q.on, q.oc, 0, 0, none, 0, 0, 0, 0, q.ops, [], []⟩
                  ⟨(IN.out w7 M6.out.below).rdo, (IN.out w7 M6.out.below).fits, (IN.out w7 M6.out.below).obig, Rd.none_, trivial, by simp⟩
                  ⟨RQ.out, by rw [LN.out]; exact TA.out.1, by rw [LN.out]; exact TA.out.2, .inl rfl, fun h => absurd h (by simp)⟩ (by rw [LN.out]; exact hlt4) rfl _ hO6 hG6⟩
              clear hO6 hG6 hR6 z0 z1 z2 z3 z4 z5 z6 z7 z8 z9
              go_roundw
              case measure => simp [intOf]; omega
              case rel => exact ⟨k + 1, A6, m + 1, c6, _, by go_num, rfl, by omega, by omega, S6⟩
      · go_wp2_with fail
        go_ret
        exact FIN.out
    · go_wp2_with fail
      go_ret
      exact FIN.out

end Go.Proofs.Ytlhjfblpinpjiaa

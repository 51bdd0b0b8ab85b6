/- dedup.Ask. dedup.Note. -/
import Derived.Test.YtallnibjmffahaaGreatDoorJ25
import Derived.Test.YtallnibjmffahaaGreatDoorJ19
import Derived.StillTailTactics
set_option linter.unusedVariables false
set_option linter.unusedSimpArgs false
namespace Go.Proofs.YtallnibjmffahaaGreatDoor
open Go.RowKit

def BAskPost (base : Nat) (w : World) (reps : List RepR) (sq : Int) (e : Ending) (w' : World) : Prop :=
  Below w.heap.size w w' ∧
    ((∃ r ∈ reps, r.sq = sq ∧ ∃ A n c, e = .returned (.tuple #[.agg #[.int .i64 7, .int .i64 sq, .slice A n c, .int .i64 r.at_, .int .i64 r.code], .bool true, .int .i64 0]) ∧ RsAt base w' A n c r.rs) ∨
     ((∀ r ∈ reps, r.sq ≠ sq) ∧ ∃ ec : Int, e = .returned (.tuple #[.agg #[.int .i64 0, .int .i64 0, .slice none 0 0, .int .i64 0, .int .i64 0], .bool false, .int .i64 ec]) ∧ ((sq ≤ lastP reps ∧ ec = 230) ∨ (lastP reps < sq ∧ ec = 0))))
/-- The result's block. -/
def ZB (w wr : World) : Prop := wr.heap[w.heap.size]? = some (.cells #[.int .i64 0, .int .i64 0, .slice none 0 0, .int .i64 0, .int .i64 0] 51 (0, 0))
theorem ZB.next {w wr w' : World} (h : ZB w wr) (hb : Below wr.heap.size wr w') : ZB w w' := (hb.block _ (Array.getElem?_eq_some_iff.1 h).1).trans h
theorem ZB.cells {w wr : World} (h : ZB w wr) : wr.cell? ⟨w.heap.size, 0, none⟩ = some (.int .i64 0) ∧ wr.cell? ⟨w.heap.size, 1, none⟩ = some (.int .i64 0) ∧ wr.cell? ⟨w.heap.size, 2, none⟩ = some (.slice none 0 0) ∧ wr.cell? ⟨w.heap.size, 3, none⟩ = some (.int .i64 0) ∧ wr.cell? ⟨w.heap.size, 4, none⟩ = some (.int .i64 0) ∧ (∀ i, wr.frozen? ⟨w.heap.size, i, none⟩ = false) ∧ w.heap.size < wr.heap.size :=
  ⟨(cell_of_row _ _ 0 _ _ _ h).trans rfl, (cell_of_row _ _ 1 _ _ _ h).trans rfl, (cell_of_row _ _ 2 _ _ _ h).trans rfl, (cell_of_row _ _ 3 _ _ _ h).trans rfl, (cell_of_row _ _ 4 _ _ _ h).trans rfl, fun i => by unfold ZB at h; simp [World.frozen?, h], (Array.getElem?_eq_some_iff.1 h).1⟩

set_option maxHeartbeats 4000000 in
set_option maxRecDepth 100000 in
theorem BAsk_calls {base bb mb depth n c : Nat} {w : World} {A : Option Addr} {reps : List RepR} (h : BookAt base w bb mb depth A n c reps) (hn : n ≤ 1000) (hbs : base ≤ w.heap.size) (sq : Int) (h0 : 1 ≤ sq) (h1 : sq ≤ 1048576) :
    Calls Tryz.prog 33 #[.pointer (some ⟨bb, 0, none⟩), .int .i64 7, .int .i64 sq] w (BAskPost base w reps sq) := by
  have hal := (Below.refl w.heap.size w).alloc (Nat.le_refl _) (.cells #[.int .i64 0, .int .i64 0, .slice none 0 0, .int .i64 0, .int .i64 0] 51)
  have B0 := Asd.mk hal
  have Z0 : Asd (ZB w (w.alloc (.cells #[.int .i64 0, .int .i64 0, .slice none 0 0, .int .i64 0, .int .i64 0] 51))) := ⟨heap_alloc_new w _⟩
  have H := Asd.mk (fun W (hW : Below w.heap.size w W) => h.below hW)
  have HN := Asd.mk h.len
  have HB := Asd.mk hbs
  obtain ⟨b0, b1, bl⟩ := (h.below hal).cells
  have LK := (h.below hal).map.look
  clear h hal hbs
  go_enter Tryz.func33, Tryz.ntmps33
  go_wp2_with fail
  generalize w.alloc (.cells #[.int .i64 0, .int .i64 0, .slice none 0 0, .int .i64 0, .int .i64 0] 51) = w1 at B0 Z0 b0 b1 bl LK ⊢
  go_loopw [33] (fun s33 wr => ∃ k : Nat, s33 = .int .i64 k ∧ k ≤ n ∧ Asd (Below w.heap.size w wr) ∧ Asd (ZB w wr) ∧ Asd (∀ j (hj : j < reps.length), j < k → reps[j].sq ≠ sq)) (fun s33 _ => n - (intOf s33).toNat)
  case atStart => exact ⟨0, rfl, Nat.zero_le _, B0, Z0, ⟨fun j _ hj => absurd hj (Nat.not_lt_zero _)⟩⟩
  case round =>
    obtain ⟨k, rfl, hk, BW, ZW, MISS⟩ := hrel
    clear B0 Z0 b0 b1 bl LK
    by_cases hlt : k < n
    · obtain ⟨b, off, rfl, hbl, hil, hcs⟩ := (H.out _ BW.out).mid.rd.at_enc (enc := RepR.enc) (fun _ => rfl) (by omega) hlt
      have hcap := (H.out _ BW.out).mid.rd.cap
      have hcc : k < c := Nat.lt_of_lt_of_le hlt hcap
      have INS := Asd.mk ((H.out _ BW.out).ins _ (List.getElem_mem hil))
      have MEM := Asd.mk (List.getElem_mem hil)
      have NX : Asd (reps[k].sq ≠ sq → ∀ j (hj : j < reps.length), j < k + 1 → reps[j].sq ≠ sq) := ⟨fun hne j hj hj2 => by
        rcases Nat.lt_or_ge j k with h | h
        · exact MISS.out j hj h
        · obtain rfl : j = k := by omega
          exact hne⟩
      generalize reps[k] = r at hcs INS MEM NX
      have c0 := hcs 0 _ rfl
      have c1 := hcs 1 _ rfl
      have c2 := hcs 2 _ rfl
      have c3 := hcs 3 _ rfl
      have c4 := hcs 4 _ rfl
      rw [Nat.add_zero] at c0
      have ZA := Asd.mk (fun W (hW : Below wr.heap.size wr W) => ZW.out.next hW)
      have BA := Asd.mk (fun W (hW : Below wr.heap.size wr W) => BW.out.trans (hW.mono BW.out.size))
      have AL := Asd.mk (fun o => (Below.refl wr.heap.size wr).alloc (Nat.le_refl _) o)
      clear hcs hcap hil ZW
      by_cases hq : r.sq = sq
      · have CP := Asd.mk (fun o => copied_calls 7 r.sq r.at_ r.code (INS.out.1.below (AL.out o)) INS.out.2 (Nat.le_trans HB.out (Nat.le_trans BW.out.size (AL.out o).size)))
        subst hq
        go_wp2_with fail
        refine (CP.out _).mono ?_
        rintro e w3 ⟨A3, n3, c3', rfl, hRs, hb3⟩
        have B3' := (Below.refl wr.heap.size wr).alloc (Nat.le_refl _) (.cells #[.int .i64 7, .int .i64 r.sq, .slice r.A r.n r.c, .int .i64 r.at_, .int .i64 r.code] 51) |>.trans (hb3.mono (by simp))
        obtain ⟨z0, z1, z2, z3, z4, zf, zl⟩ := (ZA.out _ B3').cells
        have ZT := Asd.mk (ZA.out _ B3')
        have BB := Asd.mk (BA.out _ B3')
        have RS := Asd.mk hRs
        clear B3' hRs hb3 CP
        go_wp2_with fail
        refine bodyPost_ret (v := .tuple #[.agg #[.int .i64 7, .int .i64 r.sq, .slice A3 n3 c3', .int .i64 r.at_, .int .i64 r.code], .bool true, .int .i64 0]) (by simp [results, Tryz.results33, go_sem, z0, z1, z2, z3, z4, zf]) rfl ?_
        refine ⟨((((BB.out.setCell (Nat.le_refl _) _).setCell (Nat.le_refl _) _).setCell (Nat.le_refl _) _).setCell (Nat.le_refl _) _).setCell (Nat.le_refl _) _, .inl ⟨r, MEM.out, rfl, A3, n3, c3', rfl, ?_⟩⟩
        exact RS.out.keepR fun qs hq => hq.grown (gb_at (gb_at (gb_at (gb_at (gb_at (gb_refl w3 (some w.heap.size)) 0 _) 1 _) 2 _) 3 _) 4 _) ZT.out (by decide) HB.out
      · have hq1 : (r.sq == sq) = false := by simpa using hq
        have P := Asd.mk (NX.out hq)
        clear hq NX
        go_wp2_with fail
        go_roundw
        case measure => simp [intOf]; omega
        case rel => exact ⟨k + 1, by go_num, by omega, ⟨BA.out _ (AL.out _)⟩, ⟨ZA.out _ (AL.out _)⟩, P⟩
    · obtain rfl : k = n := by omega
      have LA := Asd.mk (Last_calls (H.out _ BW.out) hn)
      obtain ⟨z0, z1, z2, z3, z4, zf, zl⟩ := ZW.out.cells
      have MI : Asd (∀ r ∈ reps, r.sq ≠ sq) := ⟨fun r hr => by
        obtain ⟨j, hj, rfl⟩ := List.mem_iff_getElem.1 hr
        exact MISS.out j hj (by have := HN.out; omega)⟩
      have BB := Asd.mk BW.out
      generalize hlp : lastP reps = lp at LA
      have LP := Asd.mk hlp
      clear hlp
      by_cases hle : sq ≤ lp
      · have HLE := Asd.mk hle
        go_wp2_with fail
        refine LA.out.mono ?_
        rintro e w3 ⟨rfl, rfl⟩
        go_wp2_with fail
        refine bodyPost_ret (v := .tuple #[.agg #[.int .i64 0, .int .i64 0, .slice none 0 0, .int .i64 0, .int .i64 0], .bool false, .int .i64 230]) (by simp [results, Tryz.results33, go_sem, z0, z1, z2, z3, z4, zf]) rfl ?_
        exact ⟨((((BB.out.setCell (Nat.le_refl _) _).setCell (Nat.le_refl _) _).setCell (Nat.le_refl _) _).setCell (Nat.le_refl _) _).setCell (Nat.le_refl _) _, .inr ⟨MI.out, _, rfl, .inl ⟨by rw [LP.out]; exact HLE.out, rfl⟩⟩⟩
      · have hgt : lp < sq := by omega
        have HGT := Asd.mk hgt
        clear hle
        go_wp2_with fail
        refine LA.out.mono ?_
        rintro e w3 ⟨rfl, rfl⟩
        go_wp2_with fail
        refine bodyPost_ret (v := .tuple #[.agg #[.int .i64 0, .int .i64 0, .slice none 0 0, .int .i64 0, .int .i64 0], .bool false, .int .i64 0]) (by simp [results, Tryz.results33, go_sem, z0, z1, z2, z3, z4, zf]) rfl ?_
        exact ⟨((((BB.out.setCell (Nat.le_refl _) _).setCell (Nat.le_refl _) _).setCell (Nat.le_refl _) _).setCell (Nat.le_refl _) _).setCell (Nat.le_refl _) _, .inr ⟨MI.out, _, rfl, .inr ⟨by rw [LP.out]; exact HGT.out, rfl⟩⟩⟩
end Go.Proofs.YtallnibjmffahaaGreatDoor

set_option linter.unusedVariables false
set_option linter.unusedSimpArgs false
namespace Go.Proofs.YtallnibjmffahaaGreatDoor
open Go.RowKit

/-- What stays when only some blocks are written. -/
structure Chg (P : Nat → Prop) (w w' : World) : Prop where
  os : w'.os = w.os
  tape : w'.tape = w.tape
  output : w'.output = w.output
  size : w.heap.size ≤ w'.heap.size
  block : ∀ b, b < w.heap.size → ¬ P b → w'.heap[b]? = w.heap[b]?
theorem Chg.of_below {P : Nat → Prop} {w w' : World} (h : Below w.heap.size w w') : Chg P w w' := ⟨h.os, h.tape, h.output, h.size, fun b hb _ => h.block b hb⟩
theorem Chg.of_gb {P : Nat → Prop} {w w' : World} {r : Option Nat} (h : w.grownBy w' r) (hr : ∀ g, r = some g → P g) : Chg P w w' := ⟨h.os, h.tape, h.output, h.size, fun b hb hp => h.block b hb (fun e => hp (hr b e.symm))⟩
theorem Chg.trans {P : Nat → Prop} {w w1 w' : World} (h : Chg P w w1) (k : Chg P w1 w') : Chg P w w' :=
  ⟨k.os.trans h.os, k.tape.trans h.tape, k.output.trans h.output, Nat.le_trans h.size k.size, fun b hb hp => (k.block b (Nat.lt_of_lt_of_le hb h.size) hp).trans (h.block b hb hp)⟩
theorem Chg.mono {P Q : Nat → Prop} {w w' : World} (h : Chg P w w') (hq : ∀ b, P b → Q b) : Chg Q w w' := ⟨h.os, h.tape, h.output, h.size, fun b hb hn => h.block b hb (fun hp => hn (hq b hp))⟩
theorem Chg.below {P : Nat → Prop} {w w' : World} {B : Nat} (h : Chg P w w') (hB : B ≤ w.heap.size) (hp : ∀ b, b < B → ¬ P b) : Below B w w' := ⟨h.os, h.tape, h.output, h.size, fun b hb => h.block b (Nat.lt_of_lt_of_le hb hB) (hp b hb)⟩

section
variable {P : Program} {ops : Array Oper} {o : Oper} {a : Act} {w : World} {K : Act → World → Prop} {Q : Exit → Act → World → Prop}
theorem step_append_mid {F : Prop} {base : Nat} (hg : o.guard = none) (s x : Operand) (t : TypeId) (hop : o.op = .call { callee := .builtin .append, args := #[s, x], argTypes := #[t, t] })
    {e size bytes : Nat} (E : Elt P t e size bytes) {A B : Option Addr} {n c d : Nat} {xs ys : List Value} (hs : a.eval s = .slice A n c) (hx : a.eval x = .slice B 1 d) (hm : Mid base e w size A n c xs) (hy : Rd base e w size B 1 d ys)
    (h1 : ∀ u ∈ ys, u.oneCell' = true) (hn : n ≤ 1000) (hby : (n + 1) * bytes ≤ 140737488355328) (hbs : base ≤ w.heap.size)
    (hK : ∀ A' c' w', Mid base e w' size A' (n + 1) c' (xs ++ ys) → w.grownBy w' (A.map Addr.block) → K (a.put o.dst (.slice A' (n + 1) c')) w') : if Region.wanted o (yielded ops a.tmps) = true then Oper.wp P o a w K Q else F := by
  rw [if_pos (by simp [Region.wanted, hg])]
  obtain ⟨A', c', w', hr, h2, h3⟩ := hm.append (P := P) t o.type e E hy h1 hn hby hbs
  unfold Oper.wp execOp
  simp only [hop, resolve, invoke, builtin, Sem.run_bind, Sem.run_pure, Result.andThen_ok, List.map_toArray, List.map_cons, List.map_nil, hs, hx, hr]
  exact hK _ _ _ h2 h3
end
theorem elt_rep : Elt Tryz.prog 133 51 5 56 := Elt.mk' Tryz.underlying133 (z := .agg #[.int .i64 0, .int .i64 0, .slice none 0 0, .int .i64 0, .int .i64 0]) (by kernel_rfl) rfl (by omega)
theorem Mid.gb {base T k n c g : Nat} {w w' : World} {A : Option Addr} {xs : List Value} {U : TypeId} {cs : Array Value} {fr : Nat × Nat} (h : Mid base T w k A n c xs) (hg : w.grownBy w' (some g)) (hh : w.heap[g]? = some (.cells cs U fr)) (hU : U ≠ T) (hge : base ≤ g) : Mid base T w' k A n c xs :=
  h.keep hg.size fun b hs => hg.block b hs.lt (fun e => by
    injection e with e
    exact hs.ne hh hU hge e)
theorem drB {B : Nat} (W : World) : Below B W W.drew := ⟨rfl, rfl, rfl, Nat.le_refl _, fun _ _ => rfl⟩
def NoteP (mb : Nat) (A : Option Addr) (b : Nat) : Prop := b = mb ∨ ∃ a, A = some a ∧ b = a.block
def NotePost (base bb mb depth : Nat) (A : Option Addr) (reps : List RepR) (sq at_ code : Int) (rs : List ResS) (w : World) (e : Ending) (w' : World) : Prop :=
  e = .returned (.int .i64 0) ∧ Chg (NoteP mb A) w w' ∧ ∃ A' n' c' q, BookAt base w' bb mb depth A' n' c' ((reps ++ [q]).drop (reps.length + 1 - depth)) ∧ n' ≤ depth ∧ q.sq = sq ∧ q.at_ = at_ ∧ q.code = code ∧ q.rs = rs
structure NoteSat (g bb mb depth : Nat) (A : Option Addr) (n c : Nat) (sq : Int) (rA : Option Addr) (rn rc : Nat) (at_ code : Int) (w : World) : Prop where
  blk : w.heap[bb]? = some (.cells #[.int .i64 depth, .map (some mb)] 68 (0, 0))
  rep : w.heap[g]? = some (.cells #[.int .i64 7, .int .i64 sq, .slice rA rn rc, .int .i64 at_, .int .i64 code] 51 (0, 0))
  map : BMap w mb A n c
section
variable {g bb mb depth n c rn rc : Nat} {A rA : Option Addr} {sq at_ code : Int} {w w' : World}
theorem NoteSat.below (h : NoteSat g bb mb depth A n c sq rA rn rc at_ code w) (hb : Below w.heap.size w w') : NoteSat g bb mb depth A n c sq rA rn rc at_ code w' :=
  ⟨(hb.block _ (Array.getElem?_eq_some_iff.1 h.blk).1).trans h.blk, (hb.block _ (Array.getElem?_eq_some_iff.1 h.rep).1).trans h.rep, h.map.keep (hb.block _ h.map.lt)⟩
theorem NoteSat.gb (h : NoteSat g bb mb depth A n c sq rA rn rc at_ code w) {r : Option Nat} (hg : w.grownBy w' r) (hr : ∀ j, r = some j → j ≠ g ∧ ∃ cs fr, w.heap[j]? = some (.cells cs 51 fr)) : NoteSat g bb mb depth A n c sq rA rn rc at_ code w' := by
  refine ⟨(hg.block _ (Array.getElem?_eq_some_iff.1 h.blk).1 (fun e => ?_)).trans h.blk, (hg.block _ (Array.getElem?_eq_some_iff.1 h.rep).1 (fun e => (hr _ e.symm).1 rfl)).trans h.rep, h.map.keep (hg.block _ h.map.lt (fun e => ?_))⟩
  · obtain ⟨_, cs, fr, hc⟩ := hr _ e.symm
    rw [h.blk] at hc
    injection hc with hc
    injection hc with _ hc
    exact absurd hc (by decide)
  · obtain ⟨_, cs, fr, hc⟩ := hr _ e.symm
    obtain ⟨es, clock, hm, _⟩ := h.map
    rw [hm] at hc
    injection hc with hc
    cases hc
theorem NoteSat.all (h : NoteSat g bb mb depth A n c sq rA rn rc at_ code w) : w.cell? ⟨bb, 1, none⟩ = some (.map (some mb)) ∧ w.cell? ⟨g, 0, none⟩ = some (.int .i64 7) ∧ w.cell? ⟨g, 1, none⟩ = some (.int .i64 sq) ∧ w.cell? ⟨g, 2, none⟩ = some (.slice rA rn rc) ∧ w.cell? ⟨g, 3, none⟩ = some (.int .i64 at_) ∧ w.cell? ⟨g, 4, none⟩ = some (.int .i64 code) ∧ w.cell? ⟨bb, 0, none⟩ = some (.int .i64 depth) ∧ bb < w.heap.size ∧ g < w.heap.size :=
  ⟨(cell_of_row _ _ 1 _ _ _ h.blk).trans rfl, (cell_of_row _ _ 0 _ _ _ h.rep).trans rfl, (cell_of_row _ _ 1 _ _ _ h.rep).trans rfl, (cell_of_row _ _ 2 _ _ _ h.rep).trans rfl, (cell_of_row _ _ 3 _ _ _ h.rep).trans rfl, (cell_of_row _ _ 4 _ _ _ h.rep).trans rfl, (cell_of_row _ _ 0 _ _ _ h.blk).trans rfl, (Array.getElem?_eq_some_iff.1 h.blk).1, (Array.getElem?_eq_some_iff.1 h.rep).1⟩
end
theorem NoteSat.gbm {g bb mb depth n c rn rc : Nat} {A rA : Option Addr} {sq at_ code : Int} {w w' : World} (h : NoteSat g bb mb depth A n c sq rA rn rc at_ code w) (hg : w.drew.grownBy w' (some mb)) : w'.heap[bb]? = some (.cells #[.int .i64 depth, .map (some mb)] 68 (0, 0)) := by
  refine (hg.block _ (Array.getElem?_eq_some_iff.1 h.blk).1 (fun e => ?_)).trans h.blk
  injection e with e
  obtain ⟨es, clock, hm, _⟩ := h.map
  rw [← e, h.blk] at hm
  injection hm with hm
  cases hm
theorem stay_map {base T mb n c : Nat} {A : Option Addr} {w : World} {b : Nat} (hs : Stay base T w b) (h : BMap w mb A n c) (hge : base ≤ mb) : b ≠ mb := by
  rintro rfl
  rcases hs.2 with h1 | ⟨cs, fr, h1⟩
  · omega
  · obtain ⟨es, clock, hm, _⟩ := h
    rw [hm] at h1
    injection h1 with h1
    cases h1
theorem Rd.gbm {base T k n c mb n2 c2 : Nat} {w w' : World} {A A2 : Option Addr} {xs : List Value} (h : Rd base T w k A n c xs) (hm : BMap w mb A2 n2 c2) (hge : base ≤ mb) (hg : w.drew.grownBy w' (some mb)) : Rd base T w' k A n c xs :=
  h.keep hg.size fun b hs => hg.block b hs.lt (fun e => by injection e with e; exact stay_map hs hm hge e)
theorem Mid.gbm {base T k n c mb n2 c2 : Nat} {w w' : World} {A A2 : Option Addr} {xs : List Value} (h : Mid base T w k A n c xs) (hm : BMap w mb A2 n2 c2) (hge : base ≤ mb) (hg : w.drew.grownBy w' (some mb)) : Mid base T w' k A n c xs :=
  h.keep hg.size fun b hs => hg.block b hs.lt (fun e => by injection e with e; exact stay_map hs hm hge e)
theorem note_book {base bb mb depth n c n2 c2 : Nat} {w w' : World} {A A2 : Option Addr} {reps : List RepR} (h1 : w'.heap[bb]? = some (.cells #[.int .i64 depth, .map (some mb)] 68 (0, 0))) (h2 : BMap w' mb A n c) (h3 : Mid base 51 w' 5 A n c (repCells reps))
    (h4 : ∀ r ∈ reps, RsAt base w r.A r.n r.c r.rs ∧ r.n ≤ 1000) (hm : BMap w mb A2 n2 c2) (hge : base ≤ mb) (hg : w.drew.grownBy w' (some mb)) : BookAt base w' bb mb depth A n c reps :=
  ⟨h1, h2, h3, fun r hr => ⟨(h4 r hr).1.keepR fun qs hq => hq.gbm hm hge hg, (h4 r hr).2⟩⟩
theorem rencP_code {cl sq at_ code : Int} {rs : List ResS} (h : replyOk cl sq at_ code rs = true) : (rencP cl sq at_ code rs).2 ≠ 80 := by
  unfold rencP
  rw [if_pos h]
  unfold encP
  split
  · simp
  · split <;> simp

set_option maxHeartbeats 4000000 in
set_option maxRecDepth 100000 in
theorem Note_calls {base bb mb depth n c : Nat} {w : World} {A : Option Addr} {reps : List RepR} (h : BookAt base w bb mb depth A n c reps) (hn : n ≤ 200) (hbs : base ≤ w.heap.size) (hbb : base ≤ bb) (hmb : base ≤ mb) (hd1 : 1 ≤ depth) (hd2 : depth ≤ 64) (sq at_ code : Int) {rA : Option Addr} {rn rc : Nat} {rs : List ResS}
    (hr : RsAt base w rA rn rc rs) (hrn : rn ≤ 1000) (hok : replyOk 7 sq at_ code rs = true) (hnew : ∀ r ∈ reps, r.sq ≠ sq) (hlast : lastP reps < sq) :
    Calls Tryz.prog 35 #[.pointer (some ⟨bb, 0, none⟩), .agg #[.int .i64 7, .int .i64 sq, .slice rA rn rc, .int .i64 at_, .int .i64 code]] w (NotePost base bb mb depth A reps sq at_ code rs w) := by
  have hal := (Below.refl w.heap.size w).alloc (Nat.le_refl _) (.cells #[.int .i64 7, .int .i64 sq, .slice rA rn rc, .int .i64 at_, .int .i64 code] 51)
  have hp := replyOk_parts hok
  obtain ⟨qs, hq1, hq2, hq3⟩ := hr
  have EN := EncodeReply_calls (base := base) 7 sq at_ code (hq1.below hal) (by omega) (Nat.le_trans hbs hal.size)
  rw [hq2] at EN
  have hec := rencP_code hok
  generalize rencP 7 sq at_ code rs = en at EN hec
  obtain ⟨es, ec⟩ := en
  have he1 : (ec == 80) = false := by simpa using hec
  have EN := Asd.mk EN
  have HR : Asd (RsAt base w rA rn rc rs) := ⟨⟨qs, hq1, hq2, hq3⟩⟩
  have H := Asd.mk (fun W (hW : Below w.heap.size w W) => h.below hW)
  have HNW := Asd.mk (And.intro hnew hlast)
  have HB := Asd.mk (And.intro hbs (And.intro hbb hmb))
  have HP := Asd.mk hp
  have B1 := Asd.mk hal
  have N1 := Asd.mk (heap_alloc_new w (.cells #[.int .i64 7, .int .i64 sq, .slice rA rn rc, .int .i64 at_, .int .i64 code] 51))
  have HL := Asd.mk h.len
  clear h hq1 hq2 hq3 hec hnew hlast hbs hbb hmb hp hok hal
  go_enter Tryz.func35, Tryz.ntmps35
  go_wp2_with fail
  refine EN.out.mono ?_
  rintro e w2 ⟨rfl, hb2⟩
  have B2 := Asd.mk (B1.out.trans (hb2.mono B1.out.size))
  have N2 := Asd.mk ((hb2.block _ (by simp)).trans N1.out)
  have k0 : w2.cell? ⟨w.heap.size, 0, none⟩ = some (.int .i64 7) := (cell_of_row _ _ 0 _ _ _ N2.out).trans rfl
  have k1 : w2.cell? ⟨w.heap.size, 1, none⟩ = some (.int .i64 sq) := (cell_of_row _ _ 1 _ _ _ N2.out).trans rfl
  have hl2 : w.heap.size < w2.heap.size := (Array.getElem?_eq_some_iff.1 N2.out).1
  have BA : Asd (Calls Tryz.prog 33 #[.pointer (some ⟨bb, 0, none⟩), .int .i64 7, .int .i64 sq] w2 (fun e w' => e = .returned (.tuple #[.agg #[.int .i64 0, .int .i64 0, .slice none 0 0, .int .i64 0, .int .i64 0], .bool false, .int .i64 0]) ∧ Below w2.heap.size w2 w')) :=
    ⟨(BAsk_calls (H.out _ B2.out) (by omega) (Nat.le_trans HB.out.1 B2.out.size) sq (by have := HP.out; omega) (by have := HP.out; omega)).mono (by
      rintro e w' ⟨hb, ⟨r, hr, hs, _⟩ | ⟨_, ec', he, ⟨h1, _⟩ | ⟨_, h2⟩⟩⟩
      · exact absurd hs (HNW.out.1 r hr)
      · have := HNW.out.2
        omega
      · rw [h2] at he
        exact ⟨he, hb⟩)⟩
  clear hb2 EN N1
  go_wp2_with fail
  refine BA.out.mono ?_
  rintro e w3 ⟨rfl, hb3⟩
  have B3 := Asd.mk (B2.out.trans (hb3.mono B2.out.size))
  have N3 := Asd.mk ((hb3.block _ hl2).trans N2.out)
  clear hb3 BA N2 k0 k1 hl2 he1
  go_upto_region 9 with fail
  have S4 : Asd (NoteSat w.heap.size bb mb depth A n c sq rA rn rc at_ code (w3.alloc (.cells #[.int .i64 0, .int .i64 0, .slice none 0 0, .int .i64 0, .int .i64 0] 51))) := ⟨(NoteSat.mk (H.out _ B3.out).blk N3.out (H.out _ B3.out).map).below ((Below.refl _ _).alloc (Nat.le_refl _) _)⟩
  have B4 := Asd.mk (B3.out.alloc B3.out.size (.cells #[.int .i64 0, .int .i64 0, .slice none 0 0, .int .i64 0, .int .i64 0] 51))
  generalize w3.alloc (.cells #[.int .i64 0, .int .i64 0, .slice none 0 0, .int .i64 0, .int .i64 0] 51) = w4 at S4 B4 ⊢
  clear N3 B3 B2 B1
  obtain ⟨a1, a2, a3, a4, a5, a6, a7, a8, a9⟩ := S4.out.all
  have LK := (S4.out.below (drB w4)).map.look
  have AB : Asd (∀ j, A.map Addr.block = some j → j ≠ w.heap.size ∧ j < w.heap.size ∧ base ≤ j ∧ ∃ cs, w.heap[j]? = some (.cells cs 51 (0, 0))) := ⟨fun j hj => by
    rcases (H.out w (Below.refl _ _)).mid.row with rfl | ⟨g, off, cur, rfl, hgb, hg, _⟩
    · simp at hj
    · simp at hj
      subst hj
      have := (Array.getElem?_eq_some_iff.1 hg).1
      exact ⟨by omega, this, hgb, cur, hg⟩⟩
  have CP := Asd.mk (fun W (hW : Below w.heap.size w W) => copied_calls 7 sq at_ code (HR.out.below hW) hrn (Nat.le_trans HB.out.1 hW.size))
  have B4d : Asd (Below w.heap.size w w4.drew) := ⟨B4.out.trans (drB w4)⟩
  have SX := Asd.mk (fun W (hW : Below w4.heap.size w4 W) => S4.out.below hW)
  go_cut [10] from 34 to 44 (fun s10 wc => ∃ (A6 : Option Addr) (c6 : Nat) (q : RepR), s10 = .slice A6 (n + 1) c6 ∧ Asd (NoteSat w.heap.size bb mb depth A n c sq rA rn rc at_ code wc) ∧ Asd (Mid base 51 wc 5 A6 (n + 1) c6 (repCells (reps ++ [q]))) ∧ Asd (Chg (NoteP mb A) w wc) ∧ Asd (∀ r ∈ reps ++ [q], RsAt base wc r.A r.n r.c r.rs ∧ r.n ≤ 1000) ∧ Asd (q.sq = sq ∧ q.at_ = at_ ∧ q.code = code ∧ q.rs = rs))
  case first =>
    go_region_held3 (fun w' => w'.cell? ⟨bb, 1, none⟩ = some (.map (some mb)) ∧ w'.cell? ⟨w.heap.size, 0, none⟩ = some (.int .i64 7) ∧ w'.cell? ⟨w.heap.size, 1, none⟩ = some (.int .i64 sq) ∧ w'.cell? ⟨w.heap.size, 2, none⟩ = some (.slice rA rn rc) ∧ w'.cell? ⟨w.heap.size, 3, none⟩ = some (.int .i64 at_) ∧ w'.cell? ⟨w.heap.size, 4, none⟩ = some (.int .i64 code)) (go_keep) (first
      | (go_at_call 54
         refine (CP.out _ (by first | exact B4d.out | exact B4.out)).mono ?_
         rintro e w5 ⟨A5, n5, c5, rfl, hR5, hb5⟩
         have S5 := Asd.mk ((S4.out.below (drB w4)).below hb5)
         have B5 := Asd.mk (B4d.out.trans (hb5.mono B4d.out.size))
         have R5 := Asd.mk hR5
         obtain ⟨d1, d2, d3, d4, d5, d6, d7, d8, d9⟩ := S5.out.all
         have LK5 := S5.out.map.look
         have LK6 := fun o => (S5.out.below ((Below.refl w5.heap.size w5).alloc (Nat.le_refl _) o)).map.look
         clear hb5 hR5)
      | (refine step_append_mid (base := base) (n := n) (xs := repCells reps) (ys := [.int .i64 7, .int .i64 sq, .slice A5 n5 c5, .int .i64 at_, .int .i64 code]) rfl (.tmp 40) (.tmp 43) 133 rfl elt_rep rfl rfl ((H.out _ B5.out).mid.below ((Below.refl _ _).alloc (Nat.le_refl _) _)) (Rd.new_ rfl rfl) (fun u hu => by simp at hu; rcases hu with rfl | rfl | rfl | rfl | rfl <;> rfl) (by omega) (by omega) (Nat.le_trans HB.out.1 (Nat.le_trans B5.out.size (by simp))) ?_
         intro A6 c6 w6 hm6 hg6
         have S6 := Asd.mk ((S5.out.below ((Below.refl w5.heap.size w5).alloc (Nat.le_refl _) _)).gb hg6 (fun j hj => by
           obtain ⟨h1, h2, _, cs, h3⟩ := AB.out j hj
           exact ⟨h1, cs, (0, 0), (heap_alloc_old _ _ (Nat.lt_of_lt_of_le h2 B5.out.size)).trans ((B5.out.block j h2).trans h3)⟩))
         obtain ⟨x1, x2, x3, x4, x5, x6, x7, x8, x9⟩ := S6.out.all
         have M6 := Asd.mk hm6
         have G6 := Asd.mk hg6
         clear hm6 hg6))
    all_goals
      have HM : Asd (Mid base 51 w6 5 A6 (n + 1) c6 (repCells (reps ++ [⟨sq, A5, n5, c5, at_, code, rs⟩]))) := ⟨by
        have h := M6.out
        unfold repCells at h ⊢
        rw [List.flatMap_append]
        exact h⟩
      have HG : Asd (Chg (NoteP mb A) w w6) := ⟨(Chg.of_below B5.out).trans ((Chg.of_below (P := NoteP mb A) ((Below.refl w5.heap.size w5).alloc (Nat.le_refl _) _)).trans (Chg.of_gb G6.out (fun g hg => .inr (by
        cases A with
        | none => simp at hg
        | some a => simp at hg; exact ⟨a, rfl, hg.symm⟩))))⟩
      have HI : Asd (∀ r ∈ reps ++ [(⟨sq, A5, n5, c5, at_, code, rs⟩ : RepR)], RsAt base w6 r.A r.n r.c r.rs ∧ r.n ≤ 1000) := ⟨by
        have hk : ∀ (X : Option Addr) (m d : Nat) (l : List ResS), RsAt base w5 X m d l → RsAt base w6 X m d l := fun X m d l hx => (hx.below ((Below.refl w5.heap.size w5).alloc (Nat.le_refl _) _)).keepR fun qs hq => hq.grownR G6.out (U := 51) (fun j hj => by
          obtain ⟨h1, h2, h4, cs, h3⟩ := AB.out j hj
          exact ⟨⟨cs, (0, 0), (heap_alloc_old _ _ (Nat.lt_of_lt_of_le h2 B5.out.size)).trans ((B5.out.block j h2).trans h3)⟩, h4⟩) (by decide)
        intro r hr
        rcases List.mem_append.1 hr with hr | hr
        · have := (H.out _ B5.out).ins r hr
          exact ⟨hk _ _ _ _ this.1, this.2⟩
        · obtain rfl := List.mem_singleton.1 hr
          refine ⟨hk _ _ _ _ R5.out, ?_⟩
          have h1 := R5.out.len
          have h2 := HR.out.len
          simp only
          omega⟩
      clear a1 a2 a3 a4 a5 a6 a7 a8 a9 d1 d2 d3 d4 d5 d6 d7 d8 d9 x1 x2 x3 x4 x5 x6 x7 x8 x9 LK LK5 LK6
      go_wp2_with fail
      go_meet
      case rel => exact ⟨A6, c6, ⟨sq, A5, n5, c5, at_, code, rs⟩, rfl, S6, HM, HG, HI, ⟨⟨rfl, rfl, rfl, rfl⟩⟩⟩
  case rest =>
    obtain ⟨A6, c6, q, rfl, S6, M6, G6, I6, Q6⟩ := hcut
    clear a1 a2 a3 a4 a5 a6 a7 a8 a9 LK S4 B4 CP B4d SX
    obtain ⟨x1, x2, x3, x4, x5, x6, x7, x8, x9⟩ := S6.out.all
    have cut6 := fun (lo : Nat) (h : lo ≤ n + 1) => M6.out.cut h
    have hcap6 := M6.out.rd.cap
    have LK := S6.out.map
    have HL6 : Asd (reps.length = n) := HL
    clear HL
    generalize hN : n + 1 = N at M6 hcap6 cut6 ⊢
    have C6 := Asd.mk cut6
    have HN := Asd.mk hN
    have hN2 : N ≤ 1000 := by omega
    have hN1 : 1 ≤ N := by omega
    clear cut6 hN LK
    by_cases hdn : N ≤ depth
    · have hw1 : IntKind.i64.wrap ((N : Int) - (depth : Int)) = (N : Int) - (depth : Int) := IntWalk.i64_in _ (by omega)
      have hw2 : ¬ (0 : Int) < (N : Int) - (depth : Int) := by omega
      have hw3 : (N : Int) - (depth : Int) ≤ 0 := by omega
      have hc0 : ¬ c6 = 0 := by omega
      obtain ⟨w7, hup, hb7, hg7⟩ := (S6.out.map.keep (w' := wc.drew) rfl).put A6 N c6
      have B7 := Asd.mk hb7
      have G7 := Asd.mk hg7
      clear hb7 hg7
      go_wp2_with fail
      go_region
      have B8 : Asd (BookAt base w7 bb mb depth A6 N c6 ((reps ++ [q]).drop (reps.length + 1 - depth))) := ⟨by
        rw [show reps.length + 1 - depth = 0 by have := HL6.out; have := HN.out; omega, List.drop_zero]
        exact note_book (S6.out.gbm G7.out) B7.out (M6.out.gbm S6.out.map HB.out.2.2 G7.out) (I6.out) S6.out.map HB.out.2.2 G7.out⟩
      have G8 : Asd (Chg (NoteP mb A) w w7) := ⟨G6.out.trans ((Chg.of_below (drB wc)).trans (Chg.of_gb G7.out (fun g hg => .inl (by injection hg with hg; exact hg.symm))))⟩
      go_wp2_with fail
      go_ret
      exact ⟨rfl, G8.out, A6, N, c6, q, B8.out, hdn, Q6.out.1, Q6.out.2.1, Q6.out.2.2.1, Q6.out.2.2.2⟩
    · obtain ⟨m, hm⟩ : ∃ m, N = depth + m := ⟨N - depth, by omega⟩
      have HM := Asd.mk hm
      have hm1 : 1 ≤ m := by omega
      have hmN : m ≤ N := by omega
      obtain ⟨g6, off6, rfl, hs6, _⟩ := M6.out.rd.at_ (by omega)
      have hs6 := hs6.lt
      have hw1 : IntKind.i64.wrap ((N : Int) - (depth : Int)) = (m : Int) := by rw [IntWalk.i64_in _ (by omega)]; omega
      have hw2 : (0 : Int) < (m : Int) := by omega
      have hw3 : ¬ (m : Int) ≤ 0 := by omega
      have hc0 : ¬ c6 = m := by omega
      clear hm hdn
      obtain ⟨w7, hup, hb7, hg7⟩ := (S6.out.map.keep (w' := wc.drew) rfl).put (some ⟨g6, off6 + m * 5, none⟩) (N - m) (c6 - m)
      have B7 := Asd.mk hb7
      have G7 := Asd.mk hg7
      clear hb7 hg7
      go_wp2_with fail
      go_region
      have MM : Asd (Mid base 51 wc 5 (some ⟨g6, off6 + m * 5, none⟩) (N - m) (c6 - m) (repCells ((reps ++ [q]).drop m))) := ⟨by
        have h := C6.out m hmN
        rw [if_neg hc0] at h
        unfold repCells at h ⊢
        rw [flat_drop RepR.enc 5 (fun _ => rfl)] at h
        simpa [add_lit'] using h⟩
      have B8 : Asd (BookAt base w7 bb mb depth (some ⟨g6, off6 + m * 5, none⟩) (N - m) (c6 - m) ((reps ++ [q]).drop (reps.length + 1 - depth))) := ⟨by
        rw [show reps.length + 1 - depth = m by have := HL6.out; have := HN.out; have := HM.out; omega]
        exact note_book (S6.out.gbm G7.out) B7.out (MM.out.gbm S6.out.map HB.out.2.2 G7.out) (fun r hr => I6.out r (List.mem_of_mem_drop hr)) S6.out.map HB.out.2.2 G7.out⟩
      have G8 : Asd (Chg (NoteP mb A) w w7) := ⟨G6.out.trans ((Chg.of_below (drB wc)).trans (Chg.of_gb G7.out (fun g hg => .inl (by injection hg with hg; exact hg.symm))))⟩
      have HND : Asd (N - m ≤ depth) := ⟨by have := HM.out; omega⟩
      go_wp2_with fail
      go_ret
      exact ⟨rfl, G8.out, _, _, _, q, B8.out, HND.out, Q6.out.1, Q6.out.2.1, Q6.out.2.2.1, Q6.out.2.2.2⟩
end Go.Proofs.YtallnibjmffahaaGreatDoor

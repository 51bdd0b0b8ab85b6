/- client.Tick. client.Ask. -/
import Derived.Test.YtallnibjmffahaaGreatDoorJ23
set_option linter.unusedVariables false
set_option linter.unusedSimpArgs false
namespace Go.Proofs.YtallnibjmffahaaGreatDoor
open Go.RowKit

structure CReqIn (base : Nat) (w : World) (x : CliR) (ops : List OpR) (s : ByteArray) : Prop where
  rd : Rd base 79 w 6 x.rA x.rn x.rc (opCells ops)
  fits : ∀ y ∈ ops, Fits y
  ok : reqOk x.rcl x.rsq ops = true
  enc : oencP x.rcl x.rsq ops = (s, 0)
  small : s.size ≤ 60000
def CliR.fail (k : CliK) (x : CliR) (at_ ec : Int) : CliR := { x with waits := false, there := true, pcl := k.id, psq := x.seq, pA := none, pn := 0, pc := 0, pat := at_, pcode := ec }
def TickPost (base : Nat) (w : World) (g : Nat) (k : CliK) (x : CliR) (t : Int) (s : ByteArray) (e : Ending) (w' : World) : Prop :=
  e = .returned (.int .i64 0) ∧ w.grownBy w' (some g) ∧ (CliAt w' g k { x with now := t } ∨ (x.waits = true ∧ CliAt w' g k (CliR.fail k { x with now := t } 0 241)) ∨
    (x.waits = true ∧ ∃ oA oc, CliAt w' g k { x with now := t, oA := oA, on := 1, oc := oc, sent := t, tried := x.tried + 1 } ∧ Rd base 61 w' 2 oA 1 oc [.int .i64 0, .string (sentB k.ver s)]))
theorem One.cli {base g : Nat} {w w' : World} {A : Option Addr} {c : Nat} {k : CliK} {x : CliR} (h : One base w A c) (hge : base ≤ g) (hc : CliAt w g k x) (hg : w.grownBy w' (some g)) : One base w' A c := ⟨h.rd.grown hg hc (by decide) hge⟩
/-- What a client's limits may be. -/
structure KOk (k : CliK) : Prop where
  pt : 0 ≤ k.pt ∧ k.pt ≤ 1000
  tr : 0 ≤ k.tr ∧ k.tr ≤ 1000
  ver : 0 ≤ k.ver ∧ k.ver ≤ 1073741824
structure XOk (x : CliR) : Prop where
  sent : 0 ≤ x.sent ∧ x.sent ≤ 1073741824
  tried : 0 ≤ x.tried ∧ x.tried ≤ 1000
  now : 0 ≤ x.now
  out : x.oA = none ∧ x.on = 0 ∧ x.oc = 0

set_option maxHeartbeats 4000000 in
set_option maxRecDepth 100000 in
theorem Tick_still {w : World} {g : Nat} {k : CliK} {x : CliR} (h : CliAt w g k x) (t : Int) (h0 : x.now ≤ t) (h1 : t ≤ 1073741824) (hw : x.waits = false) :
    Calls Tryz.prog 10 #[.pointer (some ⟨g, 0, none⟩), .int .i64 t] w fun e w' => e = .returned (.int .i64 0) ∧ CliAt w' g k { x with now := t } ∧ w.grownBy w' (some g) := by
  have C := Asd.mk (tell_calls h t h0 h1)
  have HW := Asd.mk hw
  clear h h0 h1 hw
  go_enter Tryz.func10, Tryz.ntmps10
  go_wp2_with fail
  refine C.out.mono ?_
  rintro e w1 ⟨rfl, hc, hg⟩
  have c9 : w1.cell? ⟨g, 9, none⟩ = some (.bool false) := by
    have : w1.cell? ⟨g, 9, none⟩ = some (.bool x.waits) := hc.at_ 9 _ rfl
    rw [HW.out] at this
    exact this
  have hl := hc.lt
  have H := Asd.mk hc
  have G := Asd.mk hg
  clear hc hg
  go_wp2_with fail
  go_quiet (fail)
  go_wp2_with fail
  go_ret
  exact ⟨rfl, H.out.below (below_dn _ _), gb_trans G.out (gb_below (below_dn _ _) _)⟩

set_option maxHeartbeats 4000000 in
set_option maxRecDepth 100000 in
theorem Tick_early {w : World} {g : Nat} {k : CliK} {x : CliR} (h : CliAt w g k x) (t : Int) (h0 : x.now ≤ t) (h1 : t ≤ 1073741824) (hx : XOk x) (hw : x.waits = true) (hs : t - x.sent < k.pt) :
    Calls Tryz.prog 10 #[.pointer (some ⟨g, 0, none⟩), .int .i64 t] w fun e w' => e = .returned (.int .i64 0) ∧ CliAt w' g k { x with now := t } ∧ w.grownBy w' (some g) := by
  have C := Asd.mk (tell_calls h t h0 h1)
  have HW := Asd.mk hw
  have XO := Asd.mk hx
  have HS := Asd.mk hs
  have H01 := Asd.mk (And.intro h0 h1)
  clear h h0 h1 hw hx hs
  go_enter Tryz.func10, Tryz.ntmps10
  go_wp2_with fail
  refine C.out.mono ?_
  rintro e w1 ⟨rfl, hc, hg⟩
  have c9 : w1.cell? ⟨g, 9, none⟩ = some (.bool true) := by
    have : w1.cell? ⟨g, 9, none⟩ = some (.bool x.waits) := hc.at_ 9 _ rfl
    rw [HW.out] at this
    exact this
  have c8 : w1.cell? ⟨g, 8, none⟩ = some (.int .i64 x.sent) := hc.at_ 8 _ rfl
  have c1 : w1.cell? ⟨g, 1, none⟩ = some (.int .i64 k.pt) := hc.at_ 1 _ rfl
  have hl := hc.lt
  have H := Asd.mk hc
  have G := Asd.mk hg
  clear hc hg
  go_wp2_with fail
  have hbd : -9223372036854775808 ≤ t - x.sent ∧ t - x.sent ≤ 9223372036854775807 := by have a := XO.out.sent; have b := H01.out; have c := XO.out.now; omega
  have hwr := IntWalk.i64_in _ hbd
  have hwr2 := IntWalk.wrap64_in _ hbd
  clear hbd
  have hd : decide (t - x.sent < k.pt) = true := decide_eq_true HS.out
  go_quiet (fail)
  clear hwr hwr2 hd
  go_wp2_with fail
  go_ret
  exact ⟨rfl, H.out.below (below_dn _ _), gb_trans G.out (gb_below (below_dn _ _) _)⟩

set_option maxHeartbeats 4000000 in
set_option maxRecDepth 100000 in
theorem Tick_late {w : World} {g : Nat} {k : CliK} {x : CliR} (h : CliAt w g k x) (t : Int) (h0 : x.now ≤ t) (h1 : t ≤ 1073741824) (hx : XOk x) (hk : KOk k) (hw : x.waits = true) (hs : ¬ t - x.sent < k.pt) (ht : k.tr ≤ x.tried) :
    Calls Tryz.prog 10 #[.pointer (some ⟨g, 0, none⟩), .int .i64 t] w fun e w' => e = .returned (.int .i64 0) ∧ CliAt w' g k (CliR.fail k { x with now := t } 0 241) ∧ w.grownBy w' (some g) := by
  have C := Asd.mk (tell_calls h t h0 h1)
  have HW := Asd.mk hw
  have XO := Asd.mk hx
  have HS := Asd.mk hs
  have HT := Asd.mk ht
  have H01 := Asd.mk (And.intro h0 h1)
  clear h h0 h1 hw hx hs hk ht
  go_enter Tryz.func10, Tryz.ntmps10
  go_wp2_with fail
  refine C.out.mono ?_
  rintro e w1 ⟨rfl, hc, hg⟩
  have c9 : w1.cell? ⟨g, 9, none⟩ = some (.bool true) := by
    have : w1.cell? ⟨g, 9, none⟩ = some (.bool x.waits) := hc.at_ 9 _ rfl
    rw [HW.out] at this
    exact this
  have c8 : w1.cell? ⟨g, 8, none⟩ = some (.int .i64 x.sent) := hc.at_ 8 _ rfl
  have c1 : w1.cell? ⟨g, 1, none⟩ = some (.int .i64 k.pt) := hc.at_ 1 _ rfl
  have c6 : w1.cell? ⟨g, 7, none⟩ = some (.int .i64 x.tried) := hc.at_ 7 _ rfl
  have c2 : w1.cell? ⟨g, 2, none⟩ = some (.int .i64 k.tr) := hc.at_ 2 _ rfl
  have hl := hc.lt
  have H := Asd.mk hc
  have G := Asd.mk hg
  clear hc hg
  go_wp2_with fail
  have hbd : -9223372036854775808 ≤ t - x.sent ∧ t - x.sent ≤ 9223372036854775807 := by have a := XO.out.sent; have b := H01.out; have c := XO.out.now; omega
  have hwr := IntWalk.i64_in _ hbd
  have hwr2 := IntWalk.wrap64_in _ hbd
  clear hbd
  have hd : decide (t - x.sent < k.pt) = false := decide_eq_false (by have := HS.out; omega)
  go_quiet (fail)
  clear hwr hwr2 hd
  go_wp2_with fail
  have hd2 : decide (k.tr ≤ x.tried) = true := decide_eq_true HT.out
  go_quiet (fail)
  clear hd2
  go_wp2_with fail
  refine (fail_calls (H.out.below (below_dn _ _)) 0 241).mono ?_
  rintro e w2 ⟨rfl, h2, h3⟩
  have H2 := Asd.mk h2
  have G2 := Asd.mk (gb_trans (gb_trans G.out (gb_below (below_dn _ _) _)) h3)
  clear h2 h3
  go_wp2_with fail
  go_ret
  exact ⟨rfl, H2.out, G2.out⟩

set_option maxHeartbeats 4000000 in
set_option maxRecDepth 100000 in
theorem Tick_send {base : Nat} {w : World} {g : Nat} {k : CliK} {x : CliR} {ops : List OpR} {s : ByteArray} (h : CliAt w g k x) (ho : One base w k.wA k.wc) (t : Int) (h0 : x.now ≤ t) (h1 : t ≤ 1073741824) (hx : XOk x) (hk : KOk k) (hr : CReqIn base w x ops s) (hbs : base ≤ w.heap.size) (hge : base ≤ g) (hw : x.waits = true) (hs : ¬ t - x.sent < k.pt) (ht : ¬ k.tr ≤ x.tried) :
    Calls Tryz.prog 10 #[.pointer (some ⟨g, 0, none⟩), .int .i64 t] w (TickPost base w g k x t s) := by
  have C := Asd.mk (tell_calls h t h0 h1)
  have HW := Asd.mk hw
  have XO := Asd.mk hx
  have KO := Asd.mk hk
  have HS := Asd.mk hs
  have HT := Asd.mk ht
  have H01 := Asd.mk (And.intro h0 h1)
  have HB := Asd.mk (And.intro hbs hge)
  have HR := Asd.mk hr
  have HO := Asd.mk ho
  have HH := Asd.mk h
  clear h h0 h1 hw hx hs hk ht hbs hge hr ho
  go_enter Tryz.func10, Tryz.ntmps10
  go_wp2_with fail
  refine C.out.mono ?_
  rintro e w1 ⟨rfl, hc, hg⟩
  have c9 : w1.cell? ⟨g, 9, none⟩ = some (.bool true) := by
    have : w1.cell? ⟨g, 9, none⟩ = some (.bool x.waits) := hc.at_ 9 _ rfl
    rw [HW.out] at this
    exact this
  have c8 : w1.cell? ⟨g, 8, none⟩ = some (.int .i64 x.sent) := hc.at_ 8 _ rfl
  have c1 : w1.cell? ⟨g, 1, none⟩ = some (.int .i64 k.pt) := hc.at_ 1 _ rfl
  have c6 : w1.cell? ⟨g, 7, none⟩ = some (.int .i64 x.tried) := hc.at_ 7 _ rfl
  have c2 : w1.cell? ⟨g, 2, none⟩ = some (.int .i64 k.tr) := hc.at_ 2 _ rfl
  have hl := hc.lt
  have H := Asd.mk hc
  have G := Asd.mk hg
  have S := Asd.mk (fun n => send_calls (base := base) (H.out.below (below_dn w1 n)) ((HO.out.cli HB.out.2 HH.out G.out).below (below_dn w1 n)) ((HR.out.rd.grown G.out HH.out (by decide) HB.out.2).below (below_dn w1 n)) HR.out.fits HR.out.ok HR.out.enc HR.out.small KO.out.ver XO.out.out.1 XO.out.out.2.1 XO.out.out.2.2 XO.out.tried (Nat.le_trans HB.out.1 G.out.size) HB.out.2)
  clear hc hg
  go_wp2_with fail
  have hbd : -9223372036854775808 ≤ t - x.sent ∧ t - x.sent ≤ 9223372036854775807 := by have a := XO.out.sent; have b := H01.out; have c := XO.out.now; omega
  have hwr := IntWalk.i64_in _ hbd
  have hwr2 := IntWalk.wrap64_in _ hbd
  clear hbd
  have hd : decide (t - x.sent < k.pt) = false := decide_eq_false (by have := HS.out; omega)
  go_quiet (fail)
  clear hwr hwr2 hd
  go_wp2_with fail
  have hd2 : decide (k.tr ≤ x.tried) = false := decide_eq_false (by have := HT.out; omega)
  go_quiet (fail)
  clear hd2
  go_wp2_with fail
  refine (S.out _).mono ?_
  rintro e w2 ⟨rfl, oA, oc, h2, h3, h4⟩
  have H2 := Asd.mk h2
  have H3 := Asd.mk h3
  have G2 := Asd.mk (gb_trans (gb_trans G.out (gb_below (below_dn _ _) _)) h4)
  clear h2 h3 h4
  go_wp2_with fail
  go_ret
  exact ⟨rfl, G2.out, .inr (.inr ⟨HW.out, oA, oc, H2.out, H3.out⟩)⟩

theorem Tick_calls {base : Nat} {w : World} {g : Nat} {k : CliK} {x : CliR} {ops : List OpR} {s : ByteArray} (h : CliAt w g k x) (ho : One base w k.wA k.wc) (t : Int) (h0 : x.now ≤ t) (h1 : t ≤ 1073741824) (hx : XOk x) (hk : KOk k) (hr : x.waits = true → CReqIn base w x ops s) (hbs : base ≤ w.heap.size) (hge : base ≤ g) :
    Calls Tryz.prog 10 #[.pointer (some ⟨g, 0, none⟩), .int .i64 t] w (TickPost base w g k x t s) := by
  cases hw : x.waits with
  | false => exact (Tick_still h t h0 h1 hw).mono fun e w' ⟨a, b, c⟩ => ⟨a, c, .inl b⟩
  | true =>
    by_cases hs : t - x.sent < k.pt
    · exact (Tick_early h t h0 h1 hx hw hs).mono fun e w' ⟨a, b, c⟩ => ⟨a, c, .inl b⟩
    · by_cases ht : k.tr ≤ x.tried
      · exact (Tick_late h t h0 h1 hx hk hw hs ht).mono fun e w' ⟨a, b, c⟩ => ⟨a, c, .inr (.inl ⟨hw, b⟩)⟩
      · exact Tick_send h ho t h0 h1 hx hk (hr hw) hbs hge hw hs ht
end Go.Proofs.YtallnibjmffahaaGreatDoor

set_option linter.unusedVariables false
set_option linter.unusedSimpArgs false
namespace Go.Proofs.YtallnibjmffahaaGreatDoor
open Go.RowKit

def isMany (x : OpR) : Bool := decide (x.kind = 6)
set_option maxHeartbeats 4000000 in
set_option maxRecDepth 100000 in
theorem Ask1_calls (x : OpR) (w : World) :
    Calls Tryz.prog 22 #[.agg x.enc.toArray] w fun e w' => e = .returned (.bool (isMany x)) ∧ Below w.heap.size w w' := by
  obtain ⟨a, b, c, d, e, f⟩ := x
  unfold isMany OpR.enc
  simp only
  by_cases h : a = 6
  · subst h
    go_enter Tryz.func22, Tryz.ntmps22
    go_wp2
    go_ret
    exact ⟨rfl, (Below.refl _ _).alloc (Nat.le_refl _) _⟩
  · have h1 : (a == 6) = false := by simpa using h
    rw [decide_eq_false h]
    go_enter Tryz.func22, Tryz.ntmps22
    go_wp2
    go_ret
    exact ⟨rfl, (Below.refl _ _).alloc (Nat.le_refl _) _⟩

theorem cells3 {w : World} {b : Nat} {a0 a1 a2 : Value} {T : TypeId} {fr : Nat × Nat} (h : w.heap[b]? = some (.cells #[a0, a1, a2] T fr)) (u0 u1 u2 : Value) : (((w.setCell ⟨b, 0, none⟩ u0).setCell ⟨b, 1, none⟩ u1).setCell ⟨b, 2, none⟩ u2).heap[b]? = some (.cells #[u0, u1, u2] T fr) := by
  simp only [World.setCell, Array.getElem?_modify, h, if_true, Option.map_some]
  rfl
theorem rd3 {base T U k n c : Nat} {w : World} {A : Option Addr} {xs : List Value} {b : Nat} {cs : Array Value} {fr : Nat × Nat} (h : Rd base T w k A n c xs) (hb : w.heap[b]? = some (.cells cs U fr)) (hU : U ≠ T) (hge : base ≤ b) (u0 u1 u2 : Value) : Rd base T (((w.setCell ⟨b, 0, none⟩ u0).setCell ⟨b, 1, none⟩ u1).setCell ⟨b, 2, none⟩ u2) k A n c xs := by
  have i0 : IsT w b U := ⟨_, _, hb⟩
  have r0 := h.setCell (p := ⟨b, 0, none⟩) hb hU hge u0
  obtain ⟨_, _, h1⟩ := i0.set ⟨b, 0, none⟩ u0
  have r1 := r0.setCell (p := ⟨b, 1, none⟩) h1 hU hge u1
  obtain ⟨_, _, h2⟩ := (i0.set ⟨b, 0, none⟩ u0).set ⟨b, 1, none⟩ u1
  exact r1.setCell (p := ⟨b, 2, none⟩) h2 hU hge u2
def AskPost (base : Nat) (w : World) (g : Nat) (k : CliK) (x : CliR) (t : Int) (n : Nat) (ops : List OpR) (e : Ending) (w' : World) : Prop :=
  w.grownBy w' (some g) ∧ ((∃ ec : Int, ec ≠ 0 ∧ e = .returned (.tuple #[.int .i64 0, .int .i64 ec]) ∧ CliAt w' g k { x with now := t }) ∨
    (e = .returned (.tuple #[.int .i64 (x.seq + 1), .int .i64 0]) ∧ x.waits = false ∧ reqOk k.id (x.seq + 1) ops = true ∧ ops.any isMany = false ∧ ∃ s rA rc oA oc, oencP k.id (x.seq + 1) ops = (s, 0) ∧ s.size ≤ 60000 ∧
      CliAt w' g k { x with now := t, seq := x.seq + 1, rcl := k.id, rsq := x.seq + 1, rA := rA, rn := n, rc := rc, waits := true, there := false, oA := oA, on := 1, oc := oc, sent := t, tried := 1 } ∧ Rd base 79 w' 6 rA n rc (opCells ops) ∧ Rd base 61 w' 2 oA 1 oc [.int .i64 0, .string (sentB k.ver s)]))

set_option maxHeartbeats 4000000 in
set_option maxRecDepth 100000 in
theorem Ask_calls {base : Nat} {w : World} {g : Nat} {k : CliK} {x : CliR} (h : CliAt w g k x) (ho : One base w k.wA k.wc) (t : Int) (h0 : x.now ≤ t) (h1 : t ≤ 1073741824) (hx : XOk x) (hk : KOk k) (hth : x.there = false) (hsq : 0 ≤ x.seq ∧ x.seq ≤ 1000) {A : Option Addr} {n c : Nat} {ops : List OpR} (hr : Rd base 79 w 6 A n c (opCells ops)) (hf : ∀ y ∈ ops, Fits y) (hbig : n * 64 ≤ 140737488351232) (hbs : base ≤ w.heap.size) (hge : base ≤ g) :
    Calls Tryz.prog 9 #[.pointer (some ⟨g, 0, none⟩), .slice A n c, .int .i64 t] w (AskPost base w g k x t n ops) := by
  have C := Asd.mk (tell_calls h t h0 h1)
  have XO := Asd.mk hx
  have KO := Asd.mk hk
  have HTH := Asd.mk hth
  have HQ := Asd.mk hsq
  have H01 := Asd.mk (And.intro h0 h1)
  have HB := Asd.mk (And.intro hbs hge)
  have HR := Asd.mk hr
  have HF := Asd.mk hf
  have HG := Asd.mk hbig
  have HO := Asd.mk ho
  have HH := Asd.mk h
  clear h h0 h1 hth hx hsq hk hbs hge hr ho hf hbig
  go_enter Tryz.func9, Tryz.ntmps9
  go_wp2_with fail
  refine C.out.mono ?_
  rintro e w1 ⟨rfl, hc, hg⟩
  have H := Asd.mk hc
  have G := Asd.mk hg
  clear hc hg C
  go_wp2_with fail
  have c0 : w1.cell? ⟨g, 0, none⟩ = some (.int .i64 k.id) := H.out.at_ 0 _ rfl
  have c6 : w1.cell? ⟨g, 6, none⟩ = some (.int .i64 x.seq) := H.out.at_ 6 _ rfl
  have m0 := World.new_ne w1 _ c0
  have hl := H.out.lt
  obtain ⟨hq1, hq2⟩ := HQ.out
  have CL := Asd.mk (fun W (hW : Below w1.heap.size w1 W) => Clone_op W A n c (opCells ops) ((HR.out.grown G.out HH.out (by decide) HB.out.2).below hW) (ops_one ops) (by have := HG.out; omega))
  have KK := Asd.mk (fun W (hW : Below w1.heap.size w1 W) => And.intro ((hW.cell (p := ⟨g, 0, none⟩) hl).trans c0) ((hW.cell (p := ⟨g, 6, none⟩) hl).trans c6))
  have BL := Asd.mk (fun W W2 (h1 : Below w1.heap.size w1 W) (h2 : Below W.heap.size W W2) => h1.trans (h2.mono h1.size))
  have hwr := IntWalk.i64_in (x.seq + 1) (by omega)
  have hmn : x.seq + 1 ≤ 1048576 := by omega
  have hmn2 : ¬ 1048576 < x.seq + 1 := by omega
  have HM : Asd ((if 1048576 < x.seq + 1 then (1048576 : Int) else x.seq + 1) = x.seq + 1) := ⟨if_neg hmn2⟩
  go_cut [9] from 18 to 31 (fun s9 wc => ∃ (rb : Nat) (rA : Option Addr) (rc : Nat), s9 = .pointer (some ⟨rb, 0, none⟩) ∧ Asd (w1.heap.size ≤ rb) ∧ Asd (Below w1.heap.size w1 wc) ∧ Asd (wc.heap[rb]? = some (.cells #[.int .i64 k.id, .int .i64 (x.seq + 1), .slice rA n rc] 46 (0, 0))) ∧ Asd (Rd base 79 wc 6 rA n rc (opCells ops)))
  case first =>
    go_region_held3 (fun w' => w'.cell? ⟨g, 0, none⟩ = some (.int .i64 k.id) ∧ w'.cell? ⟨g, 6, none⟩ = some (.int .i64 x.seq)) (go_keep) ((go_at_call 19; refine (CL.out _ (by first | exact (Below.refl _ _).drew | exact ((Below.refl _ _).alloc (Nat.le_refl _) _).drew | exact ((Below.refl _ _).drew).alloc (Nat.le_refl _) _)).mono ?_; rintro e w2 ⟨rA, rc, rfl, hrd, ho2, hb2⟩; clear ho2; have R2 := Asd.mk hrd; have BB := Asd.mk (BL.out _ _ (by first | exact (Below.refl _ _).drew | exact ((Below.refl _ _).alloc (Nat.le_refl _) _).drew | exact ((Below.refl _ _).drew).alloc (Nat.le_refl _) _) hb2); obtain ⟨d0, d1⟩ := KK.out _ BB.out; obtain ⟨hc2, hf2⟩ := bcell hb2; have hz2 := hb2.size; have HBk := Asd.mk hb2; have m3 := World.new_ne w2 _ d0; clear hrd))
    all_goals
      clear hc2 hf2
      try rw [HM.out]
      go_wp2_with fail
      go_meet
      case rel =>
        first
        | exact ⟨w2.heap.size, rA, rc, rfl, ⟨BB.out.size⟩, ⟨BB.out.alloc BB.out.size _⟩, ⟨heap_alloc_new w2 _⟩, ⟨R2.out.alloc _⟩⟩
        | exact ⟨w1.heap.size, rA, rc, rfl, ⟨Nat.le_refl _⟩, ⟨((BB.out.setCell (Nat.le_refl _) _).setCell (Nat.le_refl _) _).setCell (Nat.le_refl _) _⟩, ⟨cells3 ((HBk.out.block w1.heap.size (by show w1.heap.size < (w1.alloc _).heap.size; simp)).trans (heap_alloc_new w1 _)) _ _ _⟩, ⟨rd3 R2.out ((HBk.out.block w1.heap.size (by show w1.heap.size < (w1.alloc _).heap.size; simp)).trans (heap_alloc_new w1 _)) (by decide) (Nat.le_trans HB.out.1 G.out.size) _ _ _⟩⟩
  case rest =>
    obtain ⟨rb, rA, rc, rfl, RB, BC, HRQ, RO⟩ := hcut
    have HC := Asd.mk (H.out.below BC.out)
    have GC := Asd.mk (gb_trans G.out (gb_below BC.out (some g)))
    have OC := Asd.mk ((HO.out.cli HB.out.2 HH.out G.out).below BC.out)
    have RC := Asd.mk ((HR.out.grown G.out HH.out (by decide) HB.out.2).below BC.out)
    have SC : Asd (base ≤ wc.heap.size) := ⟨Nat.le_trans HB.out.1 (Nat.le_trans G.out.size BC.out.size)⟩
    have SB : Asd (base ≤ rb) := ⟨Nat.le_trans HB.out.1 (Nat.le_trans G.out.size RB.out)⟩
    clear hwr hmn hmn2 HM CL KK BL m0 c0 c6 H G HR HO HH BC RB hl
    have c9 : wc.cell? ⟨g, 9, none⟩ = some (.bool x.waits) := HC.out.at_ 9 _ rfl
    have c10 : wc.cell? ⟨g, 10, none⟩ = some (.bool false) := by
      have : wc.cell? ⟨g, 10, none⟩ = some (.bool x.there) := HC.out.at_ 10 _ rfl
      rw [HTH.out] at this
      exact this
    have r0 : wc.cell? ⟨rb, 0, none⟩ = some (.int .i64 k.id) := (cell_of_row _ _ 0 _ _ _ HRQ.out).trans rfl
    have r1 : wc.cell? ⟨rb, 1, none⟩ = some (.int .i64 (x.seq + 1)) := (cell_of_row _ _ 1 _ _ _ HRQ.out).trans rfl
    have r2 : wc.cell? ⟨rb, 2, none⟩ = some (.slice rA n rc) := (cell_of_row _ _ 2 _ _ _ HRQ.out).trans rfl
    have hrl : rb < wc.heap.size := (Array.getElem?_eq_some_iff.1 HRQ.out).1
    have hgl := HC.out.lt
    cases hw : x.waits with
    | true =>
      rw [hw] at c9
      clear hw
      go_wp2_with fail
      go_ret2
      exact ⟨GC.out, .inl ⟨240, by decide, rfl, HC.out⟩⟩
    | false =>
      rw [hw] at c9
      have HW := Asd.mk hw
      clear hw
      have CA := Asd.mk (CheckAll_calls k.id (x.seq + 1) RO.out HF.out (by have := HG.out; omega))
      cases hok : reqOk k.id (x.seq + 1) ops with
      | false =>
        rw [hok] at CA
        clear hok
        go_wp2_with fail
        refine CA.out.mono ?_
        rintro e w3 ⟨rfl, hb3⟩
        have B3 := Asd.mk hb3
        clear hb3
        go_wp2_with fail
        go_ret2
        exact ⟨gb_trans GC.out (gb_below B3.out _), .inl ⟨80, by decide, rfl, HC.out.below B3.out⟩⟩
      | true =>
        rw [hok] at CA
        have HOK := Asd.mk hok
        clear hok
        have CC := Asd.mk (fun W (hW : Below wc.heap.size wc W) b hb => ContainsOp_calls (base := base) (T := 79) isMany 22 (enters_of Tryz.func22 (by kernel_rfl) rfl) W A n c ops (RC.out.below hW) (by have := HG.out; omega) (fun W x hx => Ask1_calls x W) b hb)
        have KC := Asd.mk (fun W (hW : Below wc.heap.size wc W) => HC.out.below hW)
        cases hmy : ops.any isMany with
        | true =>
          have HMY := Asd.mk hmy
          clear hmy
          go_wp2_with fail
          refine CA.out.mono ?_
          rintro e w3 ⟨rfl, hb3⟩
          have B3 := Asd.mk hb3
          clear hb3
          go_wp2_with fail
          refine (CC.out _ B3.out true HMY.out).mono ?_
          rintro e w4 ⟨rfl, hb4⟩
          have B4 := Asd.mk (B3.out.trans (hb4.mono B3.out.size))
          clear hb4
          go_wp2_with fail
          go_ret2
          exact ⟨gb_trans GC.out (gb_below B4.out _), .inl ⟨80, by decide, rfl, KC.out _ B4.out⟩⟩
        | false =>
          have HMY := Asd.mk hmy
          clear hmy
          go_wp2_with fail
          refine CA.out.mono ?_
          rintro e w3 ⟨rfl, hb3⟩
          have B3 := Asd.mk hb3
          clear hb3
          go_wp2_with fail
          refine (CC.out _ B3.out false HMY.out).mono ?_
          rintro e w4 ⟨rfl, hb4⟩
          have B4 := Asd.mk (B3.out.trans (hb4.mono B3.out.size))
          clear hb4
          have HN0 : Asd (0 < n) := ⟨by
            have h1 := (reqOk_parts HOK.out).2.2.1.1
            have h2 := RO.out.count (enc := OpR.enc) (fun _ => rfl) (by omega)
            omega⟩
          have AP := Asd.mk (apart_calls (KC.out _ B4.out) (OC.out.below B4.out) (RC.out.below B4.out) HN0.out (by have := HG.out; omega) (fun y hy => (opOk_good ((reqOk_parts HOK.out).2.2.2 y hy)).2.1))
          clear CA CC
          go_wp2_with fail
          refine AP.out.mono ?_
          rintro e w5 ⟨rfl, hb5⟩
          have B5 := Asd.mk (B4.out.trans (hb5.mono B4.out.size))
          have c6 : w5.cell? ⟨g, 6, none⟩ = some (.int .i64 x.seq) := (KC.out _ B5.out).at_ 6 _ rfl
          have hgl5 := (KC.out _ B5.out).lt
          have q0 := (B5.out.cell (p := ⟨rb, 0, none⟩) hrl).trans r0
          have q1 := (B5.out.cell (p := ⟨rb, 1, none⟩) hrl).trans r1
          have q2 := (B5.out.cell (p := ⟨rb, 2, none⟩) hrl).trans r2
          have hrl5 := Nat.lt_of_lt_of_le hrl B5.out.size
          have EN := Asd.mk (OpEncode_calls k.id (x.seq + 1) (RO.out.below B5.out) HF.out (by have := HG.out; omega) (Nat.le_trans SC.out B5.out.size))
          generalize hen : oencP k.id (x.seq + 1) ops = en at EN
          obtain ⟨s, ec⟩ := en
          have HEN := Asd.mk hen
          clear hb5 AP hen c9 c10 r0 r1 r2 hgl hrl
          go_wp2_with fail
          refine EN.out.mono ?_
          rintro e w6 ⟨rfl, hb6⟩
          have B6 := Asd.mk (B5.out.trans (hb6.mono B5.out.size))
          have d6 := (hb6.cell (p := ⟨g, 6, none⟩) hgl5).trans c6
          have p0 := (hb6.cell (p := ⟨rb, 0, none⟩) hrl5).trans q0
          have p1 := (hb6.cell (p := ⟨rb, 1, none⟩) hrl5).trans q1
          have p2 := (hb6.cell (p := ⟨rb, 2, none⟩) hrl5).trans q2
          have hgl6 := Nat.lt_of_lt_of_le hgl5 hb6.size
          have hrl6 := Nat.lt_of_lt_of_le hrl5 hb6.size
          clear hb6 EN c6 q0 q1 q2 hgl5 hrl5
          simp only
          by_cases he : ec = 0
          · by_cases hsz : s.size ≤ 60000
            · subst he
              have HSZ := Asd.mk hsz
              have hs1 : ¬ (60000 : Int) < (s.size : Int) := by omega
              have H6 := Asd.mk (KC.out _ B6.out)
              have k11 : w6.cell? ⟨g, 11, none⟩ = some (.int .i64 x.rcl) := H6.out.at_ 11 _ rfl
              have k12 : w6.cell? ⟨g, 12, none⟩ = some (.int .i64 x.rsq) := H6.out.at_ 12 _ rfl
              have k13 : w6.cell? ⟨g, 13, none⟩ = some (.slice x.rA x.rn x.rc) := H6.out.at_ 13 _ rfl
              have k7 : w6.cell? ⟨g, 7, none⟩ = some (.int .i64 x.tried) := H6.out.at_ 7 _ rfl
              have f6 := H6.out.fr 6
              have f7 := H6.out.fr 7
              have f11 := H6.out.fr 11
              have f12 := H6.out.fr 12
              have f13 := H6.out.fr 13
              have hne : rb ≠ g := by
                intro e
                have h1 := B6.out.block rb (Array.getElem?_eq_some_iff.1 HRQ.out).1
                have h2 := H6.out
                unfold CliAt at h2
                rw [e] at h1
                rw [h1, ← e, HRQ.out] at h2
                injection h2 with h2
                injection h2 with _ h2
                exact absurd h2 (by decide)
              clear hsz
              go_wp2_with fail
              go_region
              have y1 := H6.out.set (y := { x with now := t, seq := x.seq + 1 }) 6 (.int .i64 (x.seq + 1)) rfl
              have y2 := y1.set (y := { x with now := t, seq := x.seq + 1, rcl := k.id }) 11 (.int .i64 k.id) rfl
              have y3 := y2.set (y := { x with now := t, seq := x.seq + 1, rcl := k.id, rsq := x.seq + 1 }) 12 (.int .i64 (x.seq + 1)) rfl
              have y4 := y3.set (y := { x with now := t, seq := x.seq + 1, rcl := k.id, rsq := x.seq + 1, rA := rA, rn := n, rc := rc }) 13 (.slice rA n rc) rfl
              have y5 := (y4.set (y := { x with now := t, seq := x.seq + 1, rcl := k.id, rsq := x.seq + 1, rA := rA, rn := n, rc := rc, tried := 0 }) 7 (.int .i64 0) rfl).dr
              have g5 := gb_dr (gb_at (gb_at (gb_at (gb_at (gb_at (gb_below B6.out (some g)) 6 (.int .i64 (x.seq + 1))) 11 (.int .i64 k.id)) 12 (.int .i64 (x.seq + 1))) 13 (.slice rA n rc)) 7 (.int .i64 0))
              have Y := Asd.mk y5
              have GY := Asd.mk g5
              clear y1 y2 y3 y4 y5 g5 k11 k12 k13 k7 f6 f7 f11 f12 f13 hne H6 d6 p0 p1 p2 hgl6 hrl6 hs1
              generalize (((((w6.setCell ⟨g, 6, none⟩ (.int .i64 (x.seq + 1))).setCell ⟨g, 11, none⟩ (.int .i64 k.id)).setCell ⟨g, 12, none⟩ (.int .i64 (x.seq + 1))).setCell ⟨g, 13, none⟩ (.slice rA n rc)).setCell ⟨g, 7, none⟩ (.int .i64 0)).drew = w7 at Y GY ⊢
              have k9 : w7.cell? ⟨g, 9, none⟩ = some (.bool x.waits) := Y.out.at_ 9 _ rfl
              have k10 : w7.cell? ⟨g, 10, none⟩ = some (.bool x.there) := Y.out.at_ 10 _ rfl
              have f9 := Y.out.fr 9
              have f10 := Y.out.fr 10
              have hgl7 := Y.out.lt
              have Z := Asd.mk ((Y.out.set (y := { x with now := t, seq := x.seq + 1, rcl := k.id, rsq := x.seq + 1, rA := rA, rn := n, rc := rc, tried := 0, waits := true }) 9 (.bool true) rfl).set (y := { x with now := t, seq := x.seq + 1, rcl := k.id, rsq := x.seq + 1, rA := rA, rn := n, rc := rc, tried := 0, waits := true, there := false }) 10 (.bool false) rfl)
              have GZ := Asd.mk (gb_at (gb_at GY.out 9 (.bool true)) 10 (.bool false))
              have S := Asd.mk (send_calls (base := base) Z.out (OC.out.cli HB.out.2 HC.out GZ.out) (RO.out.grown GZ.out HC.out (by decide) HB.out.2) HF.out HOK.out HEN.out HSZ.out KO.out.ver XO.out.out.1 XO.out.out.2.1 XO.out.out.2.2 ⟨Int.le_refl _, (by omega : (0 : Int) ≤ 1000)⟩ (Nat.le_trans SC.out GZ.out.size) HB.out.2)
              have RZ := Asd.mk (RO.out.grown GZ.out HC.out (by decide) HB.out.2)
              go_wp2_with fail
              refine S.out.mono ?_
              rintro e w8 ⟨rfl, oA, oc, h2, h3, h4⟩
              have d6 : w8.cell? ⟨g, 6, none⟩ = some (.int .i64 (x.seq + 1)) := h2.at_ 6 _ rfl
              have hgl8 := h2.lt
              have X2 := Asd.mk h2
              have X3 := Asd.mk h3
              have X4 := Asd.mk h4
              clear h2 h3 h4 k9 k10 f9 f10
              go_wp2_with fail
              go_ret2
              refine ⟨gb_trans GC.out (gb_trans GZ.out X4.out), .inr ⟨rfl, HW.out, HOK.out, HMY.out, s, rA, rc, oA, oc, HEN.out, HSZ.out, X2.out, RZ.out.grown X4.out Z.out (by decide) HB.out.2, X3.out⟩⟩
            · subst he
              have hs1 : (60000 : Int) < (s.size : Int) := by omega
              clear hsz
              go_wp2_with fail
              go_ret2
              exact ⟨gb_trans GC.out (gb_below B6.out _), .inl ⟨2, by decide, rfl, KC.out _ B6.out⟩⟩
          · have he1 : (ec == 0) = false := by simpa using he
            have he2 : (ec != 0) = true := by simpa using he
            clear he
            go_wp2_with fail
            go_ret2
            exact ⟨gb_trans GC.out (gb_below B6.out _), .inl ⟨2, by decide, rfl, KC.out _ B6.out⟩⟩
end Go.Proofs.YtallnibjmffahaaGreatDoor

/- among, judges. client.Hear. client.New. Words on memory for the loop of TopClient: what stays, the parts of the state. -/
import Derived.Test.YtallnibjmffahaaGreatDoorJ28
import Derived.Test.YtallnibjmffahaaGreatDoorJ15
import Derived.Test.YtallnibjmffahaaGreatDoorJ24
set_option linter.unusedVariables false
set_option linter.unusedSimpArgs false
namespace Go.Proofs.YtallnibjmffahaaGreatDoor
open Go.RowKit

def amongP (x n : Int) : Int := ((x.tmod n) + n).tmod n
theorem amongP_range (x : Int) {n : Int} (hn : 0 < n) : 0 ≤ amongP x n ∧ amongP x n < n := by
  unfold amongP
  have h1 : -n < x.tmod n := by
    have := Int.lt_tmod_of_pos x hn
    omega
  have h2 : x.tmod n < n := Int.tmod_lt_of_pos x hn
  have h3 : 0 ≤ x.tmod n + n := by omega
  exact ⟨Int.tmod_nonneg _ h3, Int.tmod_lt_of_pos _ hn⟩
set_option maxHeartbeats 4000000 in
set_option maxRecDepth 100000 in
theorem among_calls (x n : Int) (hn : 0 < n) (hn2 : n ≤ 1000) (w : World) :
    Calls Tryz.prog 5 #[.int .i64 x, .int .i64 n] w fun e w' => e = .returned (.int .i64 (amongP x n)) ∧ w' = w := by
  have h1 := Int.lt_tmod_of_pos x hn
  have h2 := Int.tmod_lt_of_pos x hn
  have h3 := amongP_range x hn
  unfold amongP at h3
  have e1 : IntKind.i64.wrap (x.tmod n) = x.tmod n := IntWalk.i64_in _ (by omega)
  have e2 : IntKind.i64.wrap (x.tmod n + n) = x.tmod n + n := IntWalk.i64_in _ (by omega)
  have e3 : IntKind.i64.wrap ((x.tmod n + n).tmod n) = (x.tmod n + n).tmod n := IntWalk.i64_in _ (by omega)
  have hn0 : n ≠ 0 := by omega
  unfold amongP
  have e4 := Int.tmod_eq_emod_of_nonneg (a := x.tmod n + n) (b := n) (by omega)
  go_enter Tryz.func5, Tryz.ntmps5
  go_wp2
  go_ret
  refine ⟨?_, rfl⟩
  rw [e4, Int.add_emod_right]
  rfl
def oneOp : OpR := ⟨5, ⟨#[107]⟩, ⟨#[]⟩, 0, 0, 0⟩
def oneCall (oA rA : Option Addr) : CallR := ⟨1, 1, 0, 1, oA, 1, 1, 0, 0, rA, 1, 1, 0, 0, [oneOp], [⟨91, 0, ⟨#[]⟩, []⟩], [⟨91, 0, ⟨#[]⟩, none, 0, 0⟩]⟩
theorem one_ok (oA rA : Option Addr) : (oneCall oA rA).ok = true := rfl
theorem one_form (oA rA : Option Addr) : formP [oneCall oA rA] [0] = (0, 0) := rfl
theorem one_judge (oA rA : Option Addr) : judgeP [oneCall oA rA] [0] = (0, 0) := rfl
theorem one_judge2 (oA rA : Option Addr) : judgeP [oneCall oA rA] [] = (0, 4) := rfl
theorem one_hist (base : Nat) (w w1 w2 w3 : World) (e1 : w1 = w.alloc (.cells oneOp.enc.toArray 79)) (e2 : w2 = w1.alloc (.cells #[.int .i64 91, .int .i64 0, .string ⟨#[]⟩, .slice none 0 0] 81))
    (e3 : w3 = w2.alloc (.cells (oneCall (some ⟨w.heap.size, 0, none⟩) (some ⟨w1.heap.size, 0, none⟩)).enc.toArray 53)) : Hist base w3 (some ⟨w2.heap.size, 0, none⟩) 1 1 [oneCall (some ⟨w.heap.size, 0, none⟩) (some ⟨w1.heap.size, 0, none⟩)] := by
  have b2 : Below w1.heap.size w1 w2 := by rw [e2]; exact (Below.refl _ _).alloc (Nat.le_refl _) _
  have b3 : Below w2.heap.size w2 w3 := by rw [e3]; exact (Below.refl _ _).alloc (Nat.le_refl _) _
  refine ⟨?_, ?_, by omega⟩
  · rw [e3]
    exact Rd.new_ rfl rfl
  · intro x hx
    obtain rfl := List.mem_singleton.1 hx
    refine ⟨?_, ?_, (show 1 ≤ 140737488355328 by omega), ?_, ⟨⟨rfl, rfl, rfl, Rd.none_, by decide⟩, trivial⟩, (show 1 ≤ 140737488355328 by omega)⟩
    · have h : Rd base 79 w1 6 (some ⟨w.heap.size, 0, none⟩) 1 1 (opCells [oneOp]) := by rw [e1]; exact Rd.new_ rfl rfl
      exact (h.below b2).below b3
    · intro y hy
      obtain rfl := List.mem_singleton.1 hy
      exact ⟨by decide, by decide⟩
    · have h : Rd base 81 w2 4 (some ⟨w1.heap.size, 0, none⟩) 1 1 (resCells [⟨91, 0, ⟨#[]⟩, none, 0, 0⟩]) := by rw [e2]; exact Rd.new_ rfl rfl
      exact h.below b3

set_option maxHeartbeats 4000000 in
set_option maxRecDepth 100000 in
theorem judges_calls (w : World) :
    Calls Tryz.prog 8 #[] w fun e w' => e = .returned (.bool true) ∧ Below w.heap.size w w' := by
  have J : Asd (∀ W, Below (((w.alloc (.cells oneOp.enc.toArray 79)).alloc (.cells #[.int .i64 91, .int .i64 0, .string ⟨#[]⟩, .slice none 0 0] 81)).alloc (.cells (oneCall (some ⟨w.heap.size, 0, none⟩) (some ⟨w.heap.size + 1, 0, none⟩)).enc.toArray 53)).heap.size (((w.alloc (.cells oneOp.enc.toArray 79)).alloc (.cells #[.int .i64 91, .int .i64 0, .string ⟨#[]⟩, .slice none 0 0] 81)).alloc (.cells (oneCall (some ⟨w.heap.size, 0, none⟩) (some ⟨w.heap.size + 1, 0, none⟩)).enc.toArray 53)) W →
      Hist w.heap.size W (some ⟨w.heap.size + 1 + 1, 0, none⟩) 1 1 [oneCall (some ⟨w.heap.size, 0, none⟩) (some ⟨w.heap.size + 1, 0, none⟩)]) := ⟨fun W hW => by
    have h := one_hist w.heap.size w _ _ _ rfl rfl rfl
    simp only [World.size_alloc] at h
    exact h.below hW⟩
  have B : Asd (Below w.heap.size w (((w.alloc (.cells oneOp.enc.toArray 79)).alloc (.cells #[.int .i64 91, .int .i64 0, .string ⟨#[]⟩, .slice none 0 0] 81)).alloc (.cells (oneCall (some ⟨w.heap.size, 0, none⟩) (some ⟨w.heap.size + 1, 0, none⟩)).enc.toArray 53))) := ⟨(((Below.refl _ _).alloc (Nat.le_refl _) _).alloc (by simp) _).alloc (by simp; omega) _⟩
  have hz : (((w.alloc (.cells oneOp.enc.toArray 79)).alloc (.cells #[.int .i64 91, .int .i64 0, .string ⟨#[]⟩, .slice none 0 0] 81)).alloc (.cells (oneCall (some ⟨w.heap.size, 0, none⟩) (some ⟨w.heap.size + 1, 0, none⟩)).enc.toArray 53)).heap.size = w.heap.size + 1 + 1 + 1 := by simp
  have HZ := Asd.mk hz
  clear hz
  go_enter Tryz.func8, Tryz.ntmps8
  go_upto_region 2 with fail
  change Code.wp _ _ _ _ (((w.alloc (.cells oneOp.enc.toArray 79)).alloc (.cells #[.int .i64 91, .int .i64 0, .string ⟨#[]⟩, .slice none 0 0] 81)).alloc (.cells (oneCall (some ⟨w.heap.size, 0, none⟩) (some ⟨w.heap.size + 1, 0, none⟩)).enc.toArray 53))
  generalize ((w.alloc (.cells oneOp.enc.toArray 79)).alloc (.cells #[.int .i64 91, .int .i64 0, .string ⟨#[]⟩, .slice none 0 0] 81)).alloc (.cells (oneCall (some ⟨w.heap.size, 0, none⟩) (some ⟨w.heap.size + 1, 0, none⟩)).enc.toArray 53) = w3 at J B HZ ⊢
  have JA := Asd.mk (Judge_calls (base := w.heap.size) (J.out _ ((Below.refl w3.heap.size w3).alloc (Nat.le_refl _) (.cells #[.int .i64 0] 3))) (B := some ⟨w3.heap.size, 0, none⟩) (m := 1) (d := 1) (os := [0]) ⟨Rd.new_ rfl rfl, by omega⟩ (Nat.le_trans B.out.size (by simp)))
  rw [one_judge] at JA
  have JB := Asd.mk (fun W (hW : Below w3.heap.size w3 W) => Judge_calls (base := w.heap.size) (J.out _ hW) (B := none) (m := 0) (d := 0) (os := []) ⟨Rd.none_, by omega⟩ (Nat.le_trans B.out.size hW.size))
  rw [one_judge2] at JB
  go_wp2_with fail
  refine JA.out.mono ?_
  rintro e w4 ⟨rfl, hb4⟩
  have B4 := Asd.mk ((Below.refl w3.heap.size w3).alloc (Nat.le_refl _) _ |>.trans (hb4.mono (by simp)))
  clear hb4
  simp only
  go_wp2_with fail
  refine (JB.out _ B4.out).mono ?_
  rintro e w5 ⟨rfl, hb5⟩
  have B5 := Asd.mk (B.out.trans ((B4.out.trans (hb5.mono B4.out.size)).mono B.out.size))
  clear hb5
  simp only
  go_wp2_with fail
  go_ret
  exact ⟨rfl, B5.out⟩
end Go.Proofs.YtallnibjmffahaaGreatDoor

set_option linter.unusedVariables false
set_option linter.unusedSimpArgs false
namespace Go.Proofs.YtallnibjmffahaaGreatDoor
open Go.RowKit

def CliR.got (x : CliR) (cl sq at_ code : Int) (A : Option Addr) (n c : Nat) : CliR := { x with waits := false, there := true, pcl := cl, psq := sq, pA := A, pn := n, pc := c, pat := at_, pcode := code }
def HearPost (base : Nat) (w : World) (g : Nat) (k : CliK) (x : CliR) (t : Int) (sq at_ code : Int) (rs : List ResS) (e : Ending) (w' : World) : Prop :=
  e = .returned (.int .i64 0) ∧ w.grownBy w' (some g) ∧ (CliAt w' g k { x with now := t } ∨ (x.waits = true ∧ sq = x.seq ∧ ∃ A n c, CliAt w' g k (CliR.got { x with now := t } k.id sq at_ code A n c) ∧ Rd base 81 w' 4 A n c (rwCells (rs.map plainW))))

set_option maxHeartbeats 4000000 in
set_option maxRecDepth 100000 in
theorem Hear_calls {base : Nat} {w : World} {g : Nat} {k : CliK} {x : CliR} {b body : ByteArray} {sq at_ code : Int} {rs : List ResS} (h : CliAt w g k x) (t : Int) (h0 : x.now ≤ t) (h1 : t ≤ 1073741824)
    (hb : decP b = ⟨[intF 1, txtF body], 0, 0⟩) (hok : replyOk k.id sq at_ code rs = true) (hl : ¬ 262144 < body.size) (hd : decP body = ⟨repF k.id sq at_ code rs, 0, 0⟩) (hbs : base ≤ w.heap.size) (hge : base ≤ g) :
    Calls Tryz.prog 11 #[.pointer (some ⟨g, 0, none⟩), .string b, .int .i64 t] w (HearPost base w g k x t sq at_ code rs) := by
  have C := Asd.mk (tell_calls h t h0 h1)
  have HB := Asd.mk (And.intro hbs hge)
  have DB := Asd.mk hb
  have DR := Asd.mk (fun W => DecodeReply_calls body W hok hl hd)
  clear h h0 h1 hb hok hl hd hbs hge
  go_enter Tryz.func11, Tryz.ntmps11
  go_wp2_with fail
  refine C.out.mono ?_
  rintro e w1 ⟨rfl, hc, hg⟩
  have H := Asd.mk hc
  have G := Asd.mk hg
  have DC := Asd.mk (Decode_calls b w1)
  rw [DB.out] at DC
  clear hc hg C
  go_wp2_with fail
  refine DC.out.mono ?_
  rintro e w2 ⟨A, n, c, rfl, hO, hb2⟩
  obtain ⟨A', c', e', hR⟩ := Rd.of_own (base := base) hO
  injection e' with e1 _ e2
  subst e1 e2
  obtain rfl : n = 2 := (hR.count (enc := FieldR.enc) (fun _ => rfl) (by omega)).symm
  obtain ⟨fb, off, rfl, hfl, hil0, hcs0⟩ := hR.at_enc (enc := FieldR.enc) (i := 0) (fun _ => rfl) (by omega) (by omega)
  obtain ⟨fb', off', e', _, hil1, hcs1⟩ := hR.at_enc (enc := FieldR.enc) (i := 1) (fun _ => rfl) (by omega) (by omega)
  injection e' with e'
  injection e' with e1 e2 _
  subst e1 e2
  have d0 : w2.cell? ⟨fb, off + 0 * 3 + 0, none⟩ = some (.bool false) := hcs0 0 _ rfl
  have d1 : w2.cell? ⟨fb, off + 0 * 3 + 1, none⟩ = some (.int .i64 1) := hcs0 1 _ rfl
  have d3 : w2.cell? ⟨fb, off + 1 * 3 + 0, none⟩ = some (.bool true) := hcs1 0 _ rfl
  have d5 : w2.cell? ⟨fb, off + 1 * 3 + 2, none⟩ = some (.string body) := hcs1 2 _ rfl
  simp only [Nat.zero_mul, Nat.one_mul, Nat.add_zero] at d0 d1 d3 d5
  have hcap := hR.cap
  have B2 := Asd.mk hb2
  clear hcs0 hcs1 hO hb2 hR DC hil0 hil1
  go_wp2_with fail
  refine (DR.out _).mono ?_
  rintro e w3 ⟨A3, n3, c3, rfl, hO3, hb3⟩
  obtain ⟨A3', c3', e', hR3⟩ := Rd.of_own (base := base) hO3
  injection e' with e1 _ e2
  subst e1 e2
  have R3 := Asd.mk hR3
  have B3 := Asd.mk (B2.out.trans (((Below.refl _ _).alloc (Nat.le_refl _) _ |>.trans (hb3.mono (by simp))).mono B2.out.size))
  clear hR3
  have H3 := Asd.mk (H.out.below B3.out)
  have G3 := Asd.mk (gb_trans G.out (gb_below B3.out (some g)))
  have hl3 := H3.out.lt
  have c9 : w3.cell? ⟨g, 9, none⟩ = some (.bool x.waits) := H3.out.at_ 9 _ rfl
  have c0 : w3.cell? ⟨g, 0, none⟩ = some (.int .i64 k.id) := H3.out.at_ 0 _ rfl
  have c6 : w3.cell? ⟨g, 6, none⟩ = some (.int .i64 x.seq) := H3.out.at_ 6 _ rfl
  clear hO3 hb3 DR d0 d1 d3 d5 hcap
  cases hw : x.waits with
  | false =>
    rw [hw] at c9
    clear hw
    go_wp2_with fail
    go_quiet (fail)
    go_wp2_with fail
    go_ret
    have al := ((Below.refl w3.heap.size w3).alloc (Nat.le_refl _) (.cells #[.int .i64 k.id, .int .i64 sq, .slice A3 n3 c3, .int .i64 at_, .int .i64 code] 51)).trans (below_dn _ nq)
    exact ⟨rfl, gb_trans G3.out (gb_below al _), .inl (H3.out.below al)⟩
  | true =>
    rw [hw] at c9
    have HW := Asd.mk hw
    clear hw
    by_cases hs : sq = x.seq
    · subst hs
      go_wp2_with fail
      go_quiet (fail)
      go_wp2_with fail
      have al := Asd.mk (((Below.refl w3.heap.size w3).alloc (Nat.le_refl _) (.cells #[.int .i64 k.id, .int .i64 x.seq, .slice A3 n3 c3, .int .i64 at_, .int .i64 code] 51)).trans (below_dn _ nq))
      refine (end_calls (H3.out.below al.out) k.id x.seq at_ code A3 n3 c3).mono ?_
      rintro e w4 ⟨rfl, h4, g4⟩
      have H4 := Asd.mk h4
      have G4 := Asd.mk (gb_trans (gb_trans G3.out (gb_below al.out _)) g4)
      have R4 := Asd.mk ((R3.out.below al.out).grown g4 (H3.out.below al.out) (by decide) HB.out.2)
      clear h4 g4
      go_wp2_with fail
      go_ret
      exact ⟨rfl, G4.out, .inr ⟨HW.out, rfl, A3, n3, c3, H4.out, R4.out⟩⟩
    · have hs1 : (sq == x.seq) = false := by simpa using hs
      have hs2 : decide (sq = x.seq) = false := decide_eq_false hs
      go_wp2_with fail
      go_quiet (fail)
      go_wp2_with fail
      go_ret
      have al := ((Below.refl w3.heap.size w3).alloc (Nat.le_refl _) (.cells #[.int .i64 k.id, .int .i64 sq, .slice A3 n3 c3, .int .i64 at_, .int .i64 code] 51)).trans (below_dn _ nq)
      exact ⟨rfl, gb_trans G3.out (gb_below al _), .inl (H3.out.below al)⟩
end Go.Proofs.YtallnibjmffahaaGreatDoor

set_option linter.unusedVariables false
set_option linter.unusedSimpArgs false
namespace Go.Proofs.YtallnibjmffahaaGreatDoor
open Go.RowKit

def cliR0 : CliR := ⟨0, 0, 0, 0, false, false, 0, 0, none, 0, 0, 0, 0, none, 0, 0, 0, 0, none, 0, 0⟩
def cliK7 (A : Option Addr) (c : Nat) : CliK := ⟨7, 3, 3, 1, A, c⟩
/-- Weights [1], in a block of their own. -/
def Wt1 (w : World) (wb : Nat) (A : Option Addr) (c : Nat) : Prop := ∃ cs off, A = some ⟨wb, off, none⟩ ∧ w.heap[wb]? = some (.cells cs 3 (0, 0)) ∧ cs[off]? = some (.int .i64 1) ∧ 1 ≤ c
theorem Wt1.one {w : World} {wb c : Nat} {A : Option Addr} (h : Wt1 w wb A c) (base : Nat) : One base w A c := by
  obtain ⟨cs, off, rfl, hb, hc, h1⟩ := h
  exact ⟨⟨rfl, h1, fun e => by simp at e, fun _ => ⟨wb, off, rfl, ⟨(Array.getElem?_eq_some_iff.1 hb).1, .inr ⟨_, _, hb⟩⟩, fun j u hu => by
    rw [cell_of_row _ _ _ _ _ _ hb]
    cases j with
    | zero => simpa [hc] using hu
    | succ j => simp at hu⟩⟩⟩
theorem Wt1.keep {w w' : World} {wb c : Nat} {A : Option Addr} (h : Wt1 w wb A c) (e : w'.heap[wb]? = w.heap[wb]?) : Wt1 w' wb A c := by
  obtain ⟨cs, off, h1, hb, hc⟩ := h
  exact ⟨cs, off, h1, e.trans hb, hc⟩
theorem Wt1.lt {w : World} {wb c : Nat} {A : Option Addr} (h : Wt1 w wb A c) : wb < w.heap.size := by
  obtain ⟨cs, off, h1, hb, hc⟩ := h
  exact (Array.getElem?_eq_some_iff.1 hb).1
theorem Wt1.of_own {w : World} {b c : Nat} {A : Option Addr} (h : w.ownsRow b 3 1 (.slice A 1 c) 1 [.int .i64 1]) : ∃ wb, Wt1 w wb A c ∧ b ≤ wb := by
  rcases h.2 with ⟨e, h0⟩ | ⟨g, cap, cur, e, hb, hg, h1, h2, h3, h4⟩
  · omega
  · injection e with e1 _ e3
    subst e1 e3
    refine ⟨g, ⟨cur, 0, rfl, hg, ?_, h1⟩, hb⟩
    have := congrArg (fun l => l[0]?) h4
    simpa using this

set_option maxHeartbeats 4000000 in
set_option maxRecDepth 100000 in
theorem CNew_calls {base : Nat} {w : World} {A : Option Addr} {c : Nat} (h : One base w A c) :
    Calls Tryz.prog 6 #[.int .i64 7, .int .i64 3, .int .i64 3, .agg #[.int .i64 1, .slice A 1 c]] w fun e w' => ∃ g wb A' c', e = .returned (.tuple #[.pointer (some ⟨g, 0, none⟩), .int .i64 0]) ∧ CliAt w' g (cliK7 A' c') cliR0 ∧ Wt1 w' wb A' c' ∧ w.heap.size ≤ wb ∧ wb < g ∧ Below w.heap.size w w' := by
  have hal := (Below.refl w.heap.size w).alloc (Nat.le_refl _) (.cells #[.int .i64 1, .slice A 1 c] 33)
  have B := Asd.mk hal
  have H := Asd.mk (h.below hal)
  clear h hal
  go_enter Tryz.func6, Tryz.ntmps6
  go_wp2_with fail
  refine (LayoutCheck_calls H.out (by omega) (by omega)).mono ?_
  rintro e w2 ⟨rfl, hb2⟩
  have B2 := Asd.mk (B.out.trans (hb2.mono (by simp)))
  have H2 := Asd.mk (H.out.below hb2)
  have L2 : w2.heap[w.heap.size]? = some (.cells #[.int .i64 1, .slice A 1 c] 33 (0, 0)) := (hb2.block _ (by simp)).trans (heap_alloc_new w _)
  have c0 : w2.cell? ⟨w.heap.size, 0, none⟩ = some (.int .i64 1) := (cell_of_row _ _ 0 _ _ _ L2).trans rfl
  have c1 : w2.cell? ⟨w.heap.size, 1, none⟩ = some (.slice A 1 c) := (cell_of_row _ _ 1 _ _ _ L2).trans rfl
  have hl : w.heap.size < w2.heap.size := (Array.getElem?_eq_some_iff.1 L2).1
  have CL := Asd.mk (Clone_int w2 A 1 c [.int .i64 1] H2.out.rd (fun u hu => by simp at hu; subst hu; rfl) (by omega))
  have L2a := Asd.mk L2
  clear hb2 L2
  go_wp2_with fail
  refine CL.out.mono ?_
  rintro e w3 ⟨A3, c3, rfl, _, hO, hb3⟩
  obtain ⟨wb, hW, hwb⟩ := Wt1.of_own hO
  have B3 := Asd.mk (B2.out.trans (hb3.mono B2.out.size))
  have L3 : w3.heap[w.heap.size]? = some (.cells #[.int .i64 1, .slice A 1 c] 33 (0, 0)) := (hb3.block _ hl).trans L2a.out
  have e0 : w3.cell? ⟨w.heap.size, 0, none⟩ = some (.int .i64 1) := (cell_of_row _ _ 0 _ _ _ L3).trans rfl
  have e1 : w3.cell? ⟨w.heap.size, 1, none⟩ = some (.slice A 1 c) := (cell_of_row _ _ 1 _ _ _ L3).trans rfl
  have ef : w3.frozen? ⟨w.heap.size, 1, none⟩ = false := by simp [World.frozen?, L3]
  have hl3 : w.heap.size < w3.heap.size := (Array.getElem?_eq_some_iff.1 L3).1
  have W3 := Asd.mk hW
  have HW := Asd.mk (Nat.lt_of_lt_of_le hl hwb)
  clear hO hb3 hW hwb L3 c0 c1
  go_wp2_with fail
  go_ret2
  have hs : (w3.setCell ⟨w.heap.size, 1, none⟩ (.slice A3 1 c3)).heap.size = w3.heap.size := by simp [World.setCell]
  refine ⟨w3.heap.size, wb, A3, c3, rfl, ?_, ?_, Nat.le_of_lt HW.out, W3.out.lt, ((B3.out.setCell (Nat.le_refl _) _).alloc (by rw [hs]; exact Nat.le_of_lt hl3) _)⟩
  · have h := heap_alloc_new (w3.setCell ⟨w.heap.size, 1, none⟩ (.slice A3 1 c3)) (.cells (cliR0.cells (cliK7 A3 c3)) 74)
    rw [hs] at h
    exact h
  · exact W3.out.keep ((heap_alloc_old _ _ (by rw [hs]; exact W3.out.lt)).trans (Below.heap_setCell w3 ⟨w.heap.size, 1, none⟩ _ wb (by show wb ≠ w.heap.size; have := HW.out; omega)))
end Go.Proofs.YtallnibjmffahaaGreatDoor

set_option linter.unusedVariables false
set_option linter.unusedSimpArgs false
namespace Go.Proofs.YtallnibjmffahaaGreatDoor
open Go.RowKit

def tagIn (S : List TypeId) (m : Bool) : Obj → Bool
  | .cells _ T _ => S.contains T
  | .map _ _ => m
  | _ => false
/-- What stays when blocks of some types, from lo on, are written. -/
structure Ko (S : List TypeId) (m : Bool) (lo : Nat) (w w' : World) : Prop where
  below : Below lo w w'
  rest : ∀ (b : Nat) (o : Obj), w.heap[b]? = some o → tagIn S m o = false → w'.heap[b]? = some o
section
variable {S S' : List TypeId} {m m' : Bool} {lo base : Nat} {w w1 w' : World}
theorem Ko.refl (S : List TypeId) (m : Bool) (lo : Nat) (w : World) : Ko S m lo w w := ⟨Below.refl _ _, fun _ _ h _ => h⟩
theorem Ko.trans (h : Ko S m lo w w1) (k : Ko S m lo w1 w') : Ko S m lo w w' := ⟨h.below.trans k.below, fun b o hb ho => k.rest b o (h.rest b o hb ho) ho⟩
theorem Ko.of_below (h : Below w.heap.size w w') (hb : lo ≤ w.heap.size) : Ko S m lo w w' := ⟨h.mono hb, fun b o hb ho => by rw [h.block b (Array.getElem?_eq_some_iff.1 hb).1]; exact hb⟩
theorem Ko.of_gb {g : Nat} {cs : Array Value} {U : TypeId} {fr : Nat × Nat} (h : w.grownBy w' (some g)) (hh : w.heap[g]? = some (.cells cs U fr)) (hU : S.contains U = true) (hlo : lo ≤ g) : Ko S m lo w w' :=
  ⟨⟨h.os, h.tape, h.output, h.size, fun b hb => h.block b (by have := (Array.getElem?_eq_some_iff.1 hh).1; omega) (fun e => by injection e with e; omega)⟩, fun b o hb ho => by
    rw [h.block b (Array.getElem?_eq_some_iff.1 hb).1 (fun e => ?_)]
    · exact hb
    · injection e with e
      subst e
      rw [hh] at hb
      injection hb with hb
      subst hb
      have ho' : S.contains U = false := ho
      rw [hU] at ho'
      cases ho'⟩
theorem Ko.mono (h : Ko S m lo w w') (hs : ∀ o, tagIn S' m' o = false → tagIn S m o = false) (hlo : base ≤ lo) : Ko S' m' base w w' := ⟨h.below.mono hlo, fun b o hb ho => h.rest b o hb (hs o ho)⟩
theorem Ko.size (h : Ko S m lo w w') : w.heap.size ≤ w'.heap.size := h.below.size
theorem Ko.blk {b : Nat} {cs : Array Value} {U : TypeId} {fr : Nat × Nat} (h : Ko S m lo w w') (hb : w.heap[b]? = some (.cells cs U fr)) (hU : S.contains U = false) : w'.heap[b]? = some (.cells cs U fr) := h.rest b _ hb hU
theorem Ko.stay {T : TypeId} (h : Ko S m lo w w') (hT : S.contains T = false) (hlo : base ≤ lo) {b : Nat} (hs : Stay base T w b) : w'.heap[b]? = w.heap[b]? := by
  rcases hs.2 with hb | ⟨cs, fr, hb⟩
  · exact h.below.block b (by omega)
  · rw [h.rest b _ hb hT, hb]
theorem Ko.rd {T : TypeId} {k n c : Nat} {A : Option Addr} {xs : List Value} (h : Ko S m lo w w') (hr : Rd base T w k A n c xs) (hT : S.contains T = false) (hlo : base ≤ lo) : Rd base T w' k A n c xs := hr.keep h.size fun b hs => h.stay hT hlo hs
theorem Ko.mid {T : TypeId} {k n c : Nat} {A : Option Addr} {xs : List Value} (h : Ko S m lo w w') (hr : Mid base T w k A n c xs) (hT : S.contains T = false) (hlo : base ≤ lo) : Mid base T w' k A n c xs := hr.keep h.size fun b hs => h.stay hT hlo hs
theorem Ko.own {U : TypeId} {b k n : Nat} {v : Value} {xs : List Value} (h : Ko S m lo w w') (ho : w.ownsRow b U k v n xs) (hU : S.contains U = false) : w'.ownsRow b U k v n xs :=
  ⟨ho.1, ho.2.imp id fun ⟨g, cap, cur, h1, h2, h3, h4⟩ => ⟨g, cap, cur, h1, h2, h.blk h3 hU, h4⟩⟩
theorem Ko.bmap {mb n c : Nat} {A : Option Addr} (h : Ko S false lo w w') (hm : BMap w mb A n c) : BMap w' mb A n c := by
  obtain ⟨es, clock, h1, h2⟩ := hm
  exact ⟨es, clock, h.rest mb _ h1 rfl, h2⟩
theorem Ko.rs {A : Option Addr} {n c : Nat} {rs : List ResS} (h : Ko S m lo w w') (hr : RsAt base w A n c rs) (hT : S.contains 81 = false) (hlo : base ≤ lo) : RsAt base w' A n c rs := hr.keepR fun qs hq => h.rd hq hT hlo
theorem Ko.book {bb mb depth n c : Nat} {A : Option Addr} {reps : List RepR} (h : Ko S false lo w w') (hb : BookAt base w bb mb depth A n c reps) (h1 : S.contains 68 = false) (h2 : S.contains 51 = false) (h3 : S.contains 81 = false) (hlo : base ≤ lo) : BookAt base w' bb mb depth A n c reps :=
  ⟨h.blk hb.blk h1, h.bmap hb.map, h.mid hb.mid h2 hlo, fun r hr => ⟨h.rs (hb.ins r hr).1 h3 hlo, (hb.ins r hr).2⟩⟩
theorem Ko.tab {tg c : Nat} {A : Option Addr} {rows : List Rw} (h : Ko S m lo w w') (ht : Tab base w tg rows A c) (h1 : S.contains 77 = false) (h2 : S.contains 131 = false) (hlo : base ≤ lo) : Tab base w' tg rows A c :=
  ⟨h.blk ht.blk h1, ht.ge, h.rd ht.rd h2 hlo, ht.srt, ht.big, fun a ha => Nat.lt_of_lt_of_le (ht.old a ha) h.size⟩
theorem Ko.call {x : CallR} (h : Ko S m lo w w') (hc : CallIn base w x) (h1 : S.contains 79 = false) (h2 : S.contains 81 = false) (h3 : S.contains 131 = false) (hlo : base ≤ lo) : CallIn base w' x :=
  ⟨h.rd hc.rdo h1 hlo, hc.fits, hc.obig, h.rd hc.rdr h2 hlo, hc.rins.mono fun q r hq => ⟨hq.code, hq.stamp, hq.val, h.rd hq.rd h3 hlo, hq.big⟩, hc.rbig⟩
end

/-- The client. -/
structure MC (B0 g wb : Nat) (k : CliK) (x : CliR) (rq : List OpR) (s : ByteArray) (W : World) : Prop where
  at_ : CliAt W g k x
  one : Wt1 W wb k.wA k.wc
  req : x.waits = true → CReqIn B0 W x rq s
/-- The server: its book, its table. -/
structure MB (B0 bb mb tg depth : Nat) (reps : List RepR) (rows : List Rw) (W : World) : Prop where
  book : ∃ A n c, BookAt B0 W bb mb depth A n c reps ∧ n ≤ depth
  tab : ∃ A c, Tab B0 W tg rows A c
def strs (l : List ByteArray) : List Value := l.map fun s => .string s
theorem strs_len (l : List ByteArray) : (strs l).length = l.length := by simp [strs]
/-- A list of letters in a variable's block. -/
structure Box (B1 b : Nat) (A : Option Addr) (l : List ByteArray) (W : World) : Prop where
  blk : ∃ c, W.heap[b]? = some (.cells #[.slice A l.length c] 37 (0, 0)) ∧ W.ownsRow B1 9 1 (.slice A l.length c) l.length (strs l)
/-- The letters on their ways. -/
structure ML (B1 ub db : Nat) (ups dns : List ByteArray) (W : World) : Prop where
  ex : ∃ uA dA, Box B1 ub uA ups W ∧ Box B1 db dA dns W ∧ ∀ a b, uA = some a → dA = some b → a.block ≠ b.block
/-- The history. -/
structure MH (B0 B1 : Nat) (v : Value) (hs : List CallR) (W : World) : Prop where
  own : W.ownsRow B1 53 10 v hs.length (hs.flatMap CallR.enc)
  ins : ∀ x ∈ hs, CallIn B0 W x
/-- The order. -/
def MO (B1 : Nat) (v : Value) (os : List Int) (W : World) : Prop := W.ownsRow B1 3 1 v os.length (os.flatMap intEnc)
section
variable {S : List TypeId} {m : Bool} {lo : Nat} {W W' : World}
theorem MC.ko {B0 g wb : Nat} {k : CliK} {x : CliR} {rq : List OpR} {s : ByteArray} (h : MC B0 g wb k x rq s W) (hk : Ko S m lo W W') (h1 : S.contains 74 = false) (h2 : S.contains 79 = false) (h3 : S.contains 3 = false ∨ wb < lo) (hlo : B0 ≤ lo) : MC B0 g wb k x rq s W' := by
  refine ⟨hk.blk h.at_ h1, h.one.keep ?_, fun hw => ⟨hk.rd (h.req hw).rd h2 hlo, (h.req hw).fits, (h.req hw).ok, (h.req hw).enc, (h.req hw).small⟩⟩
  rcases h3 with h3 | h3
  · obtain ⟨cs, off, _, hb, _⟩ := h.one
    rw [hk.blk hb h3, hb]
  · exact hk.below.block _ h3
theorem MB.ko {B0 bb mb tg depth : Nat} {reps : List RepR} {rows : List Rw} (h : MB B0 bb mb tg depth reps rows W) (hk : Ko S false lo W W') (h1 : S.contains 68 = false) (h2 : S.contains 51 = false) (h3 : S.contains 81 = false) (h4 : S.contains 77 = false) (h5 : S.contains 131 = false) (hlo : B0 ≤ lo) : MB B0 bb mb tg depth reps rows W' := by
  obtain ⟨A, n, c, hb, hn⟩ := h.book
  obtain ⟨A2, c2, ht⟩ := h.tab
  exact ⟨⟨A, n, c, hk.book hb h1 h2 h3 hlo, hn⟩, ⟨A2, c2, hk.tab ht h4 h5 hlo⟩⟩
theorem Box.ko {B1 b : Nat} {A : Option Addr} {l : List ByteArray} (h : Box B1 b A l W) (hk : Ko S m lo W W') (h1 : S.contains 37 = false) (h2 : S.contains 9 = false) : Box B1 b A l W' := by
  obtain ⟨c, hb, ho⟩ := h.blk
  exact ⟨c, hk.blk hb h1, hk.own ho h2⟩
theorem ML.ko {B1 ub db : Nat} {ups dns : List ByteArray} (h : ML B1 ub db ups dns W) (hk : Ko S m lo W W') (h1 : S.contains 37 = false) (h2 : S.contains 9 = false) : ML B1 ub db ups dns W' := by
  obtain ⟨uA, dA, hu, hd, hne⟩ := h.ex
  exact ⟨uA, dA, hu.ko hk h1 h2, hd.ko hk h1 h2, hne⟩
theorem MH.ko {B0 B1 : Nat} {v : Value} {hs : List CallR} (h : MH B0 B1 v hs W) (hk : Ko S m lo W W') (h0 : S.contains 53 = false) (h1 : S.contains 79 = false) (h2 : S.contains 81 = false) (h3 : S.contains 131 = false) (hlo : B0 ≤ lo) : MH B0 B1 v hs W' :=
  ⟨hk.own h.own h0, fun x hx => hk.call (h.ins x hx) h1 h2 h3 hlo⟩
theorem MO.ko {B1 : Nat} {v : Value} {os : List Int} (h : MO B1 v os W) (hk : Ko S m lo W W') (h1 : S.contains 3 = false) : MO B1 v os W' := hk.own h h1
end
end Go.Proofs.YtallnibjmffahaaGreatDoor

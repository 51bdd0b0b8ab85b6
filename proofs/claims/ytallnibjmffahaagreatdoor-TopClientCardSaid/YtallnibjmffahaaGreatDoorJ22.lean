/- The sort of one point; a text's chain among one point. A text's chain among one point. ring.made and ring.Of at weights of one chain of weight one. A client in memory; layout.Check, client.tell, client.chain. client.Letters. client.end. -/
import Derived.Test.YtallnibjmffahaaGreatDoorJ21
set_option linter.unusedVariables false
set_option linter.unusedSimpArgs false
namespace Go.Proofs.YtallnibjmffahaaGreatDoor
open Go.RowKit

set_option maxHeartbeats 4000000 in
set_option maxRecDepth 100000 in
theorem Len64_1 (w : World) : Calls Tryz.prog 127 #[.int .u64 1] w fun e w' => (∃ x : Int, e = .returned (.int .i64 x)) ∧ w' = w := by
  go_enter Tryz.func127, Tryz.ntmps127
  go_wp2_with fail
  go_ret
  all_goals first | exact ⟨⟨_, rfl⟩, rfl⟩ | exact ⟨_, rfl⟩ | trivial
set_option maxHeartbeats 4000000 in
set_option maxRecDepth 100000 in
theorem Len_1 (w : World) : Calls Tryz.prog 112 #[.int .u64 1] w fun e w' => (∃ x : Int, e = .returned (.int .i64 x)) ∧ w' = w := by
  go_enter Tryz.func112, Tryz.ntmps112
  go_wp2_with fail
  refine (Len64_1 _).mono ?_
  rintro e w' ⟨⟨x, rfl⟩, hw⟩
  subst hw
  go_wp2_with fail
  go_ret
  all_goals first | exact ⟨⟨_, rfl⟩, rfl⟩ | exact ⟨_, rfl⟩ | trivial
set_option maxHeartbeats 4000000 in
set_option maxRecDepth 100000 in
theorem ins1 (v f : Value) (w : World) : Calls Tryz.prog 118 #[v, .int .i64 0, .int .i64 1, f] w fun e w' => e = .returned (.tuple #[]) ∧ w' = w := by
  go_enter Tryz.func118, Tryz.ntmps118
  go_wp2_with fail
  go_loopw [8] (fun s8 wr => s8 = .int .i64 1 ∧ Asd (wr = w)) (fun _ _ => 0)
  case atStart => exact ⟨rfl, ⟨rfl⟩⟩
  case round =>
    obtain ⟨rfl, HW⟩ := hrel
    have hw := HW.out
    subst hw
    clear HW
    go_wp2_with fail
    go_end0
    all_goals first | exact ⟨rfl, rfl⟩ | trivial
set_option maxHeartbeats 4000000 in
set_option maxRecDepth 100000 in
theorem pdq1 (v f : Value) (x : Int) (w : World) : Calls Tryz.prog 111 #[v, .int .i64 0, .int .i64 1, .int .i64 x, f] w fun e w' => e = .returned (.tuple #[]) ∧ w' = w := by
  go_enter Tryz.func111, Tryz.ntmps111
  go_wp2_with fail
  go_loopw [1, 2] (fun s1 s2 wr => s1 = .int .i64 0 ∧ s2 = .int .i64 1 ∧ Asd (wr = w)) (fun _ _ _ => 0)
  case atStart => exact ⟨rfl, rfl, ⟨rfl⟩⟩
  case round =>
    obtain ⟨rfl, rfl, HW⟩ := hrel
    have hw := HW.out
    subst hw
    clear HW
    go_wp2_with fail
    refine (ins1 _ _ _).mono ?_
    rintro e w' ⟨rfl, hw⟩
    subst hw
    go_wp2_with fail
    refine bodyPost_ret (results_none rfl _ _ _) rfl ?_
    all_goals first | exact ⟨rfl, rfl⟩ | trivial
set_option maxHeartbeats 4000000 in
set_option maxRecDepth 100000 in
theorem sortF1 (A : Option Addr) (c : Nat) (f : Value) (w : World) : Calls Tryz.prog 105 #[.slice A 1 c, f] w fun e w' => e = .returned (.tuple #[]) ∧ w' = w := by
  go_enter Tryz.func105, Tryz.ntmps105
  go_wp2_with fail
  refine (Len_1 _).mono ?_
  rintro e w' ⟨⟨x, rfl⟩, hw⟩
  subst hw
  go_wp2_with fail
  refine (pdq1 _ _ _ _).mono ?_
  rintro e w' ⟨rfl, hw⟩
  subst hw
  go_wp2_with fail
  go_end0
  all_goals first | exact ⟨rfl, rfl⟩ | trivial
set_option maxHeartbeats 4000000 in
set_option maxRecDepth 100000 in
theorem sort1 (A : Option Addr) (c : Nat) (f : Value) (w : World) : Calls Tryz.prog 97 #[.slice A 1 c, f] w fun e w' => e = .returned (.tuple #[]) ∧ w' = w := by
  go_enter Tryz.func97, Tryz.ntmps97
  go_wp2_with fail
  refine (sortF1 _ _ _ _).mono ?_
  rintro e w' ⟨rfl, hw⟩
  subst hw
  go_wp2_with fail
  go_end0
  all_goals first | exact ⟨rfl, rfl⟩ | trivial
end Go.Proofs.YtallnibjmffahaaGreatDoor

set_option linter.unusedVariables false
set_option linter.unusedSimpArgs false
namespace Go.Proofs.YtallnibjmffahaaGreatDoor
open Go.RowKit

/-- A ring of one point, of chain 0. -/
structure Pt (base : Nat) (w : World) (A : Option Addr) (c : Nat) (x : Int) : Prop where
  rd : Rd base 179 w 3 A 1 c [.int .u64 x, .int .i64 0, .int .i64 0]
theorem Pt.below {base : Nat} {w w' : World} {A : Option Addr} {c : Nat} {x : Int} (h : Pt base w A c x) (hb : Below w.heap.size w w') : Pt base w' A c x := ⟨h.rd.below hb⟩
theorem Pt.at_ {base : Nat} {w : World} {A : Option Addr} {c : Nat} {x : Int} (h : Pt base w A c x) : ∃ b off, A = some ⟨b, off, none⟩ ∧ b < w.heap.size ∧ 1 ≤ c ∧ w.cell? ⟨b, off, none⟩ = some (.int .u64 x) ∧ w.cell? ⟨b, off + 1, none⟩ = some (.int .i64 0) ∧ w.cell? ⟨b, off + 2, none⟩ = some (.int .i64 0) ∧
    ∀ P, Sem.run P (loadCellsFrom ⟨b, off, none⟩ 0 3 #[]) w = .ok #[.int .u64 x, .int .i64 0, .int .i64 0] w := by
  obtain ⟨b, off, e, hb, hc⟩ := h.rd.at_ (by omega)
  refine ⟨b, off, e, hb.lt, h.rd.cap, hc 0 _ rfl, hc 1 _ rfl, hc 2 _ rfl, fun P => run_load_list P w _ [.int .u64 x, .int .i64 0, .int .i64 0] 3 rfl fun j v hj => by rw [add_lit']; exact hc j v hj⟩
set_option maxHeartbeats 4000000 in
set_option maxRecDepth 100000 in
theorem bs1 {base : Nat} {w : World} {A : Option Addr} {c : Nat} {x : Int} (h : Pt base w A c x) (y : Int) :
    Calls Tryz.prog 99 #[.slice A 1 c, .int .u64 y, .func (.func 100) #[] #[]] w fun e w' => (∃ (i : Nat) (g : Bool), e = .returned (.tuple #[.int .i64 i, .bool g]) ∧ i ≤ 1) ∧ Below w.heap.size w w' := by
  have H := Asd.mk h
  clear h
  go_enter Tryz.func99, Tryz.ntmps99
  go_wp2_with fail
  go_loopw [9, 10] (fun s9 s10 wr => (∃ i j : Nat, s9 = .int .i64 i ∧ s10 = .int .i64 j ∧ i ≤ j ∧ j ≤ 1) ∧ Asd (Below w.heap.size w wr)) (fun s9 s10 _ => (intOf s10 - intOf s9).toNat)
  case atStart => exact ⟨⟨0, 1, rfl, rfl, by omega, by omega⟩, ⟨Below.refl _ _⟩⟩
  case round =>
    obtain ⟨⟨i, j, rfl, rfl, hij, hj⟩, HB⟩ := hrel
    have H2 := Asd.mk (H.out.below HB.out)
    obtain ⟨b, off, rfl, hb, hcap, hc0, hc1, hc2, -⟩ := H2.out.at_
    by_cases hlt : i < j
    · obtain rfl : i = 0 := by omega
      obtain rfl : j = 1 := by omega
      go_wp2_with fail
      refine (ofcmp _ _ _ _ _).mono ?_
      rintro e w2 ⟨⟨z, rfl, h0, h1⟩, hb2⟩
      have HB2 := Asd.mk (HB.out.trans (hb2.mono HB.out.size))
      clear hb2 HB
      by_cases hz : z < 0
      · go_wp2_with fail
        go_roundw
        case measure => simp [intOf]
        case rel => exact ⟨⟨1, 1, by go_num, by go_num, by omega, by omega⟩, HB2⟩
      · go_wp2_with fail
        go_roundw
        case measure => simp [intOf]
        case rel => exact ⟨⟨0, 0, by go_num, by go_num, by omega, by omega⟩, HB2⟩
    · obtain rfl : i = j := by omega
      by_cases h1 : i < 1
      · obtain rfl : i = 0 := by omega
        go_wp2_with fail
        refine (ofcmp _ _ _ _ _).mono ?_
        rintro e w2 ⟨⟨z, rfl, h0, h1⟩, hb2⟩
        have HB2 := Asd.mk (HB.out.trans (hb2.mono HB.out.size))
        clear hb2 HB
        go_wp2_with fail
        go_ret2
        exact ⟨⟨0, _, rfl, by omega⟩, HB2.out⟩
      · obtain rfl : i = 1 := by omega
        go_wp2_with fail
        go_ret2
        exact ⟨⟨1, _, rfl, by omega⟩, HB.out⟩
set_option maxHeartbeats 4000000 in
set_option maxRecDepth 100000 in
theorem of1 {base : Nat} {w : World} {A : Option Addr} {c : Nat} {x : Int} (h : Pt base w A c x) (s : ByteArray) (hs : s.size ≤ 1000000) :
    Calls Tryz.prog 84 #[.slice A 1 c, .string s] w fun e w' => e = .returned (.int .i64 0) ∧ Below w.heap.size w w' := by
  have H := Asd.mk h
  clear h
  go_enter Tryz.func84, Tryz.ntmps84
  go_wp2_with fail
  refine (Hash_calls s hs _).mono ?_
  rintro e w1 ⟨⟨y, rfl⟩, hw⟩
  subst hw
  go_wp2_with fail
  refine (bs1 H.out y).mono ?_
  rintro e w2 ⟨⟨i, g, rfl, hi⟩, hb2⟩
  obtain ⟨b, off, rfl, hb, hcap, -, hc1, -, -⟩ := (H.out.below hb2).at_
  have HB := Asd.mk hb2
  clear hb2 H
  rcases Nat.lt_or_ge i 1 with h1 | h1
  · obtain rfl : i = 0 := by omega
    go_wp2_with fail
    go_ret
    all_goals first | exact ⟨rfl, HB.out⟩ | exact HB.out | trivial
  · obtain rfl : i = 1 := by omega
    go_wp2_with fail
    go_ret
    all_goals first | exact ⟨rfl, HB.out⟩ | exact HB.out | trivial
end Go.Proofs.YtallnibjmffahaaGreatDoor

set_option linter.unusedVariables false
set_option linter.unusedSimpArgs false
namespace Go.Proofs.YtallnibjmffahaaGreatDoor
open Go.RowKit

theorem elt_pt : Elt Tryz.prog 161 179 3 24 := Elt.mk' Tryz.underlying161 (z := .agg #[.int .u64 0, .int .i64 0, .int .i64 0]) (by kernel_rfl) rfl (by omega)
/-- What the loops keep: nothing yet, or the one point. -/
def MadeS (w : World) (k : Nat) (v : Value) (wr : World) : Prop :=
  Below w.heap.size w wr ∧ ((k = 0 ∧ v = .slice none 0 0) ∨ (k = 1 ∧ ∃ A c x, v = .slice A 1 c ∧ Pt w.heap.size wr A c x))
theorem dots {a b : ByteArray} (ha : a.size ≤ 1) (hb : b.size ≤ 1) : (a.append (⟨#[46]⟩ : ByteArray)).append b = a ++ (⟨#[46]⟩ : ByteArray) ++ b ∧ (a ++ (⟨#[46]⟩ : ByteArray) ++ b).size ≤ 3 := by
  refine ⟨rfl, ?_⟩
  rw [ByteArray.size_append, ByteArray.size_append]
  have : (⟨#[46]⟩ : ByteArray).size = 1 := rfl
  omega
set_option maxHeartbeats 8000000 in
set_option maxRecDepth 100000 in
theorem made_calls {base : Nat} {w : World} {A : Option Addr} {c : Nat} (h : One base w A c) :
    Calls Tryz.prog 83 #[.slice A 1 c] w fun e w' => ∃ B d x, e = .returned (.tuple #[.slice B 1 d, .int .i64 0]) ∧ Pt w.heap.size w' B d x ∧ Below w.heap.size w w' := by
  have H := Asd.mk h
  clear h
  go_enter Tryz.func83, Tryz.ntmps83
  go_wp2_with fail
  refine (RingCheck_calls H.out).mono ?_
  rintro e w1 ⟨rfl, hw⟩
  subst hw
  go_wp2_with fail
  go_loopw [5, 17] (fun s5 s17 wr => ∃ k : Nat, s17 = .int .i64 k ∧ k ≤ 1 ∧ Asd (MadeS w1 k s5 wr)) (fun _ s17 _ => 1 - (intOf s17).toNat)
  case atStart => exact ⟨0, rfl, by omega, ⟨⟨Below.refl _ _, .inl ⟨rfl, rfl⟩⟩⟩⟩
  case round =>
    obtain ⟨k, rfl, hk, MS⟩ := hrel
    by_cases hlt : k < 1
    · obtain rfl : k = 0 := by omega
      obtain ⟨hB, ⟨_, rfl⟩ | ⟨h0, _⟩⟩ := MS.out
      rotate_left
      · omega
      have HB := Asd.mk hB
      obtain ⟨b, off, rfl, hb, hc0⟩ := (H.out.below hB).at_
      clear hB MS
      go_wp2_with fail
      go_loopw [5, 23] (fun s5 s23 wr => ∃ k : Nat, s23 = .int .i64 k ∧ k ≤ 1 ∧ Asd (MadeS w1 k s5 wr)) (fun _ s23 _ => 1 - (intOf s23).toNat)
      case atStart => exact ⟨0, rfl, by omega, ⟨⟨HB.out, .inl ⟨rfl, rfl⟩⟩⟩⟩
      case round =>
        clear hc0 hb HB
        obtain ⟨k, rfl, hk, MS⟩ := hrel
        by_cases hlt : k < 1
        · obtain rfl : k = 0 := by omega
          obtain ⟨hB, ⟨_, rfl⟩ | ⟨h0, _⟩⟩ := MS.out
          rotate_left
          · omega
          have HB := Asd.mk hB
          clear hB MS
          go_wp2_with fail
          refine (Itoa0 _).mono ?_
          rintro e w2 ⟨⟨s, rfl, hs⟩, hw⟩
          subst hw
          go_wp2_with fail
          refine (Itoa0 _).mono ?_
          rintro e w3 ⟨⟨t, rfl, ht⟩, hw⟩
          subst hw
          have hsz : (s ++ (⟨#[46]⟩ : ByteArray) ++ t).size ≤ 1000000 := Nat.le_trans (dots hs ht).2 (by omega)
          go_wp2_with fail
          refine (Hash_calls _ hsz _).mono ?_
          rintro e w4 ⟨⟨x, rfl⟩, hw⟩
          subst hw
          clear hsz hs ht
          have N := Asd.mk (World.ownsRow_nil w4 w1.heap.size 179 3)
          have hbs : w1.heap.size ≤ w4.heap.size := HB.out.size
          go_wp2_with (at_builtin; refine wpList_append_mine (base := w1.heap.size) (own := w1.heap.size) (v := .slice none 0 0) (n := 0) (m := 1) (xs := []) (ys := [.int .u64 x, .int .i64 0, .int .i64 0]) rfl (.tmp 26) (.tmp 37) 161 rfl elt_pt rfl rfl (N.out.alloc _) (Rd.new_ rfl rfl) (by intro u hu; simp only [List.mem_cons, List.not_mem_nil, or_false] at hu; rcases hu with rfl | rfl | rfl <;> rfl) (by unfold maxLen; omega) (by omega) (by simp; omega) ?_; intro v5 w5 O5' G5'; obtain ⟨A5, d5, rfl, R5'⟩ := Rd.of_own (base := w1.heap.size) O5'; have K5' := (((Kp.refl 179 w1.heap.size w4).alloc hbs (.cells #[.int .u64 x, .int .i64 0, .int .i64 0] 179)).trans (Kp.own (N.out.alloc _) G5' (by simp; omega))); have P5 := Asd.mk (Pt.mk (base := w1.heap.size) R5'); have B5 := Asd.mk (HB.out.trans K5'.below); clear O5' G5' K5' R5')
          go_roundw
          case measure => simp [intOf]
          case rel => exact ⟨1, by go_num, by omega, ⟨⟨B5.out, .inr ⟨rfl, _, _, _, rfl, P5.out⟩⟩⟩⟩
        · obtain rfl : k = 1 := by omega
          go_wp2_with fail
          go_roundw
          case measure => simp [intOf]
          case rel => exact ⟨1, by go_num, by omega, MS⟩
    · obtain rfl : k = 1 := by omega
      obtain ⟨hB, ⟨h0, _⟩ | ⟨_, B, d, x, rfl, hp⟩⟩ := MS.out
      · omega
      have HB := Asd.mk hB
      have HP := Asd.mk hp
      clear hB hp MS
      go_wp2_with fail
      refine (sort1 _ _ _ _).mono ?_
      rintro e w2 ⟨rfl, hw⟩
      subst hw
      go_wp2_with fail
      go_ret2
      exact ⟨_, _, _, rfl, HP.out, HB.out⟩
set_option maxHeartbeats 8000000 in
set_option maxRecDepth 100000 in
theorem Of_calls {base : Nat} {w : World} {A : Option Addr} {c : Nat} (h : One base w A c) (s : ByteArray) (hs : s.size ≤ 1000000) :
    Calls Tryz.prog 66 #[.slice A 1 c, .string s] w fun e w' => e = .returned (.tuple #[.int .i64 0, .int .i64 0]) ∧ Below w.heap.size w w' := by
  have H := Asd.mk h
  clear h
  go_enter Tryz.func66, Tryz.ntmps66
  go_wp2_with fail
  refine (made_calls H.out).mono ?_
  rintro e w1 ⟨B, d, x, rfl, hp, hb⟩
  have HP := Asd.mk hp
  have HB := Asd.mk hb
  clear hp hb H
  go_wp2_with fail
  refine (of1 HP.out s hs).mono ?_
  rintro e w2 ⟨rfl, hb2⟩
  have HB2 := Asd.mk (HB.out.trans (hb2.mono HB.out.size))
  clear hb2 HB HP
  go_wp2_with fail
  go_ret2
  all_goals first | exact ⟨rfl, HB2.out⟩ | exact HB2.out
end Go.Proofs.YtallnibjmffahaaGreatDoor

set_option linter.unusedVariables false
set_option linter.unusedSimpArgs false
namespace Go.Proofs.YtallnibjmffahaaGreatDoor
open Go.RowKit

set_option maxHeartbeats 4000000 in
set_option maxRecDepth 100000 in
theorem LayoutCheck_calls {base : Nat} {w : World} {A : Option Addr} {c : Nat} (h : One base w A c) {v : Int} (h0 : 1 ≤ v) (h1 : v ≤ 1073741824) :
    Calls Tryz.prog 16 #[.agg #[.int .i64 v, .slice A 1 c]] w fun e w' => e = .returned (.int .i64 0) ∧ Below w.heap.size w w' := by
  have hal := Asd.mk ((Below.refl w.heap.size w).alloc (Nat.le_refl _) (.cells #[.int .i64 v, .slice A 1 c] 33))
  have H := Asd.mk (h.below ((Below.refl w.heap.size w).alloc (Nat.le_refl _) (.cells #[.int .i64 v, .slice A 1 c] 33)))
  clear h
  go_enter Tryz.func16, Tryz.ntmps16
  go_wp2_with fail
  refine (RingCheck_calls H.out).mono ?_
  rintro e w' ⟨rfl, hw⟩
  subst hw
  go_wp2_with fail
  go_ret
  all_goals first | exact ⟨rfl, hal.out⟩ | exact hal.out | trivial

/-- What of a client turns. -/
structure CliR where
  now : Int
  seq : Int
  tried : Int
  sent : Int
  waits : Bool
  there : Bool
  rcl : Int
  rsq : Int
  rA : Option Addr
  rn : Nat
  rc : Nat
  pcl : Int
  psq : Int
  pA : Option Addr
  pn : Nat
  pc : Nat
  pat : Int
  pcode : Int
  oA : Option Addr
  on : Nat
  oc : Nat
/-- What of a client stays. -/
structure CliK where
  id : Int
  pt : Int
  tr : Int
  ver : Int
  wA : Option Addr
  wc : Nat
def CliR.cells (k : CliK) (x : CliR) : Array Value :=
  #[.int .i64 k.id, .int .i64 k.pt, .int .i64 k.tr, .int .i64 k.ver, .slice k.wA 1 k.wc, .int .i64 x.now, .int .i64 x.seq, .int .i64 x.tried, .int .i64 x.sent, .bool x.waits, .bool x.there,
    .int .i64 x.rcl, .int .i64 x.rsq, .slice x.rA x.rn x.rc, .int .i64 x.pcl, .int .i64 x.psq, .slice x.pA x.pn x.pc, .int .i64 x.pat, .int .i64 x.pcode, .slice x.oA x.on x.oc]
/-- A client that lies at block g. -/
def CliAt (w : World) (g : Nat) (k : CliK) (x : CliR) : Prop := w.heap[g]? = some (.cells (x.cells k) 74 (0, 0))
theorem CliAt.at_ {w : World} {g : Nat} {k : CliK} {x : CliR} (h : CliAt w g k x) (j : Nat) (v : Value) (hj : (x.cells k)[j]? = some v) : w.cell? ⟨g, j, none⟩ = some v := (cell_of_row w g j _ _ _ h).trans hj
theorem CliAt.fr {w : World} {g : Nat} {k : CliK} {x : CliR} (h : CliAt w g k x) (j : Nat) : w.frozen? ⟨g, j, none⟩ = false := by
  unfold CliAt at h
  simp [World.frozen?, h]
theorem CliAt.lt {w : World} {g : Nat} {k : CliK} {x : CliR} (h : CliAt w g k x) : g < w.heap.size := (Array.getElem?_eq_some_iff.1 h).1

set_option maxHeartbeats 4000000 in
set_option maxRecDepth 100000 in
theorem tell_calls {w : World} {g : Nat} {k : CliK} {x : CliR} (h : CliAt w g k x) (t : Int) (h0 : x.now ≤ t) (h1 : t ≤ 1073741824) :
    Calls Tryz.prog 18 #[.pointer (some ⟨g, 0, none⟩), .int .i64 t] w fun e w' => e = .returned (.int .i64 0) ∧ CliAt w' g k { x with now := t } ∧ w.grownBy w' (some g) := by
  have c5 : w.cell? ⟨g, 5, none⟩ = some (.int .i64 x.now) := h.at_ 5 _ rfl
  have f5 := h.fr 5
  have hl := h.lt
  have H := Asd.mk h
  clear h
  go_enter Tryz.func18, Tryz.ntmps18
  go_wp2_with fail
  go_ret
  refine ⟨rfl, ?_, gb_cell' _ _ _ _⟩
  have h := H.out
  unfold CliAt at h ⊢
  simp only [World.setCell, Array.getElem?_modify, h, if_true, Option.map_some]
  rfl
set_option maxHeartbeats 4000000 in
set_option maxRecDepth 100000 in
theorem chain_calls {base : Nat} {w : World} {g : Nat} {k : CliK} {x : CliR} (h : CliAt w g k x) (ho : One base w k.wA k.wc) (y : OpR) (hy : y.key.size ≤ 64) :
    Calls Tryz.prog 44 #[.pointer (some ⟨g, 0, none⟩), .agg y.enc.toArray] w fun e w' => e = .returned (.int .i64 0) ∧ Below w.heap.size w w' := by
  have hal := (Below.refl w.heap.size w).alloc (Nat.le_refl _) (.cells y.enc.toArray 79)
  have B := Asd.mk hal
  have H4 : (w.alloc (.cells y.enc.toArray 79)).cell? ⟨g, 4, none⟩ = some (.slice k.wA 1 k.wc) := (World.cell?_of_block (hal.block _ h.lt)).trans (h.at_ 4 _ rfl)
  have H1 : (w.alloc (.cells y.enc.toArray 79)).cell? ⟨w.heap.size, 1, none⟩ = some (.string y.key) := (cell_of_row _ _ 1 _ _ _ (heap_alloc_new w _)).trans rfl
  have C := Asd.mk (fun W (hW : Below (w.alloc (.cells y.enc.toArray 79)).heap.size (w.alloc (.cells y.enc.toArray 79)) W) => Of_calls ((ho.below hal).below hW) y.key (Nat.le_trans hy (by omega)))
  have hl := h.lt
  clear hal h ho
  go_enter Tryz.func44, Tryz.ntmps44
  go_upto_region 1 with fail
  generalize w.alloc (.cells y.enc.toArray 79) = w1 at B H4 H1 C ⊢
  go_region_with (go_at_call 66; refine (C.out _ (Below.refl _ _).drew).mono ?_; rintro e w2 ⟨rfl, hb2⟩)
  all_goals
    have B2 := Asd.mk (B.out.drew.trans (hb2.mono B.out.size))
    clear hb2
    go_wp2_with fail
    go_ret
    first | exact ⟨rfl, B2.out⟩ | exact B2.out
end Go.Proofs.YtallnibjmffahaaGreatDoor

set_option linter.unusedVariables false
set_option linter.unusedSimpArgs false
namespace Go.Proofs.YtallnibjmffahaaGreatDoor
open Go.RowKit

set_option maxHeartbeats 4000000 in
set_option maxRecDepth 100000 in
theorem Letters_calls {w : World} {g : Nat} {k : CliK} {x : CliR} (h : CliAt w g k x) :
    Calls Tryz.prog 13 #[.pointer (some ⟨g, 0, none⟩)] w fun e w' => e = .returned (.slice x.oA x.on x.oc) ∧ CliAt w' g k { x with oA := none, on := 0, oc := 0 } ∧ w.grownBy w' (some g) := by
  have c19 : w.cell? ⟨g, 19, none⟩ = some (.slice x.oA x.on x.oc) := h.at_ 19 _ rfl
  have f19 := h.fr 19
  have hl := h.lt
  have H := Asd.mk h
  clear h
  go_enter Tryz.func13, Tryz.ntmps13
  go_wp2_with fail
  go_ret
  refine ⟨rfl, ?_, gb_cell' _ _ _ _⟩
  have h := H.out
  unfold CliAt at h ⊢
  simp only [World.setCell, Array.getElem?_modify, h, if_true, Option.map_some]
  rfl
end Go.Proofs.YtallnibjmffahaaGreatDoor

set_option linter.unusedVariables false
set_option linter.unusedSimpArgs false
namespace Go.Proofs.YtallnibjmffahaaGreatDoor
open Go.RowKit

theorem CliAt.set {w : World} {g : Nat} {k : CliK} {x y : CliR} (h : CliAt w g k x) (j : Nat) (v : Value) (hy : (x.cells k).setIfInBounds j v = y.cells k) : CliAt (w.setCell ⟨g, j, none⟩ v) g k y := by
  unfold CliAt at h ⊢
  rw [← hy]
  simp only [World.setCell, Array.getElem?_modify, h, if_true, Option.map_some]
  rfl
theorem CliAt.keep {w w' : World} {g : Nat} {k : CliK} {x : CliR} (h : CliAt w g k x) (e : w'.heap[g]? = w.heap[g]?) : CliAt w' g k x := e.trans h
theorem CliAt.below {w w' : World} {g : Nat} {k : CliK} {x : CliR} (h : CliAt w g k x) (b : Below w.heap.size w w') : CliAt w' g k x := h.keep (b.block _ h.lt)
theorem CliAt.dr {w : World} {g : Nat} {k : CliK} {x : CliR} (h : CliAt w g k x) : CliAt w.drew g k x := h
theorem gb_at {w W : World} {g : Nat} (h : w.grownBy W (some g)) (j : Nat) (u : Value) : w.grownBy (W.setCell ⟨g, j, none⟩ u) (some g) :=
  ⟨h.os, h.tape, h.output, by simpa [World.setCell] using h.size, fun k hk hne => (Below.heap_setCell W ⟨g, j, none⟩ u k (fun e => hne (by rw [e]))).trans (h.block k hk hne)⟩
theorem gb_dr {w W : World} {r : Option Nat} (h : w.grownBy W r) : w.grownBy W.drew r := ⟨h.os, h.tape, h.output, h.size, h.block⟩
set_option maxHeartbeats 4000000 in
set_option maxRecDepth 100000 in
theorem end_calls {w : World} {g : Nat} {k : CliK} {x : CliR} (h : CliAt w g k x) (cl sq at_ code : Int) (A : Option Addr) (n c : Nat) :
    Calls Tryz.prog 31 #[.pointer (some ⟨g, 0, none⟩), .agg #[.int .i64 cl, .int .i64 sq, .slice A n c, .int .i64 at_, .int .i64 code]] w fun e w' => e = .returned (.tuple #[]) ∧ CliAt w' g k { x with waits := false, there := true, pcl := cl, psq := sq, pA := A, pn := n, pc := c, pat := at_, pcode := code } ∧ w.grownBy w' (some g) := by
  have hw : World.heap (w.alloc (.cells #[.int .i64 cl, .int .i64 sq, .slice A n c, .int .i64 at_, .int .i64 code] 51)) = w.heap.push _ := rfl
  have H : CliAt (w.alloc (.cells #[.int .i64 cl, .int .i64 sq, .slice A n c, .int .i64 at_, .int .i64 code] 51)) g k x := (((Below.refl w.heap.size w).alloc (Nat.le_refl _) _).block _ h.lt).trans h
  have N := heap_alloc_new w (.cells #[.int .i64 cl, .int .i64 sq, .slice A n c, .int .i64 at_, .int .i64 code] 51)
  have f9 := H.fr 9
  have f10 := H.fr 10
  have f14 := H.fr 14
  have f15 := H.fr 15
  have f16 := H.fr 16
  have f17 := H.fr 17
  have f18 := H.fr 18
  have n0 : (w.alloc (.cells #[.int .i64 cl, .int .i64 sq, .slice A n c, .int .i64 at_, .int .i64 code] 51)).cell? ⟨w.heap.size, 0, none⟩ = some (.int .i64 cl) := (cell_of_row _ _ 0 _ _ _ N).trans rfl
  have n1 : (w.alloc (.cells #[.int .i64 cl, .int .i64 sq, .slice A n c, .int .i64 at_, .int .i64 code] 51)).cell? ⟨w.heap.size, 1, none⟩ = some (.int .i64 sq) := (cell_of_row _ _ 1 _ _ _ N).trans rfl
  have n2 : (w.alloc (.cells #[.int .i64 cl, .int .i64 sq, .slice A n c, .int .i64 at_, .int .i64 code] 51)).cell? ⟨w.heap.size, 2, none⟩ = some (.slice A n c) := (cell_of_row _ _ 2 _ _ _ N).trans rfl
  have n3 : (w.alloc (.cells #[.int .i64 cl, .int .i64 sq, .slice A n c, .int .i64 at_, .int .i64 code] 51)).cell? ⟨w.heap.size, 3, none⟩ = some (.int .i64 at_) := (cell_of_row _ _ 3 _ _ _ N).trans rfl
  have n4 : (w.alloc (.cells #[.int .i64 cl, .int .i64 sq, .slice A n c, .int .i64 at_, .int .i64 code] 51)).cell? ⟨w.heap.size, 4, none⟩ = some (.int .i64 code) := (cell_of_row _ _ 4 _ _ _ N).trans rfl
  have c9 : (w.alloc (.cells #[.int .i64 cl, .int .i64 sq, .slice A n c, .int .i64 at_, .int .i64 code] 51)).cell? ⟨g, 9, none⟩ = some (.bool x.waits) := H.at_ 9 _ rfl
  have c10 : (w.alloc (.cells #[.int .i64 cl, .int .i64 sq, .slice A n c, .int .i64 at_, .int .i64 code] 51)).cell? ⟨g, 10, none⟩ = some (.bool x.there) := H.at_ 10 _ rfl
  have c14 : (w.alloc (.cells #[.int .i64 cl, .int .i64 sq, .slice A n c, .int .i64 at_, .int .i64 code] 51)).cell? ⟨g, 14, none⟩ = some (.int .i64 x.pcl) := H.at_ 14 _ rfl
  have c15 : (w.alloc (.cells #[.int .i64 cl, .int .i64 sq, .slice A n c, .int .i64 at_, .int .i64 code] 51)).cell? ⟨g, 15, none⟩ = some (.int .i64 x.psq) := H.at_ 15 _ rfl
  have c16 : (w.alloc (.cells #[.int .i64 cl, .int .i64 sq, .slice A n c, .int .i64 at_, .int .i64 code] 51)).cell? ⟨g, 16, none⟩ = some (.slice x.pA x.pn x.pc) := H.at_ 16 _ rfl
  have c17 : (w.alloc (.cells #[.int .i64 cl, .int .i64 sq, .slice A n c, .int .i64 at_, .int .i64 code] 51)).cell? ⟨g, 17, none⟩ = some (.int .i64 x.pat) := H.at_ 17 _ rfl
  have c18 : (w.alloc (.cells #[.int .i64 cl, .int .i64 sq, .slice A n c, .int .i64 at_, .int .i64 code] 51)).cell? ⟨g, 18, none⟩ = some (.int .i64 x.pcode) := H.at_ 18 _ rfl
  have B := Asd.mk ((Below.refl w.heap.size w).alloc (Nat.le_refl _) (.cells #[.int .i64 cl, .int .i64 sq, .slice A n c, .int .i64 at_, .int .i64 code] 51))
  have hl := h.lt
  have hne : g ≠ w.heap.size := by omega
  have HH := Asd.mk H
  clear h hw H N
  go_enter Tryz.func31, Tryz.ntmps31
  go_upto_region 1 with fail
  generalize (w.alloc (.cells #[.int .i64 cl, .int .i64 sq, .slice A n c, .int .i64 at_, .int .i64 code] 51)) = w1 at *
  go_region
  go_wp2_with fail
  go_end0
  refine ⟨rfl, ?_, ?_⟩
  · have h9 := HH.out.set (y := { x with waits := false }) 9 (.bool false) rfl
    have h10 := h9.set (y := { x with waits := false, there := true }) 10 (.bool true) rfl
    have h14 := h10.set (y := { x with waits := false, there := true, pcl := cl }) 14 (.int .i64 cl) rfl
    have h15 := h14.set (y := { x with waits := false, there := true, pcl := cl, psq := sq }) 15 (.int .i64 sq) rfl
    have h16 := h15.set (y := { x with waits := false, there := true, pcl := cl, psq := sq, pA := A, pn := n, pc := c }) 16 (.slice A n c) rfl
    have h17 := h16.set (y := { x with waits := false, there := true, pcl := cl, psq := sq, pA := A, pn := n, pc := c, pat := at_ }) 17 (.int .i64 at_) rfl
    exact CliAt.dr (h17.set (y := { x with waits := false, there := true, pcl := cl, psq := sq, pA := A, pn := n, pc := c, pat := at_, pcode := code }) 18 (.int .i64 code) rfl)
  · exact gb_dr (gb_at (gb_at (gb_at (gb_at (gb_at (gb_at (gb_at (gb_below B.out _) _ _) _ _) _ _) _ _) _ _) _ _) _ _)
end Go.Proofs.YtallnibjmffahaaGreatDoor

/- Clones of operations, results, ints; slices.IndexFunc over operations with a closure that captures two. client.fail, Take, apart, New. client.apart. client.send. -/
import Derived.Test.YtallnibjmffahaaGreatDoorJ22
set_option linter.unusedVariables false
set_option linter.unusedSimpArgs false
namespace Go.Proofs.YtallnibjmffahaaGreatDoor
open Go.RowKit

theorem elt_int : Elt Tryz.prog 31 3 1 8 := Elt.mk' Tryz.underlying31 (z := .int .i64 0) (by kernel_rfl) rfl (by omega)
set_option maxHeartbeats 4000000 in
set_option maxRecDepth 100000 in
theorem Clone_op {base : Nat} (w : World) (A : Option Addr) (n c : Nat) (xs : List Value) (hr : Rd base 79 w 6 A n c xs) (h1 : ∀ u ∈ xs, u.oneCell' = true) (hbig : n * 64 ≤ 140737488355328) :
    Calls Tryz.prog 19 #[.slice A n c] w fun e w' => ∃ A' c', e = .returned (.slice A' n c') ∧ Rd base 79 w' 6 A' n c' xs ∧ w'.ownsRow w.heap.size 79 6 (.slice A' n c') n xs ∧ Below w.heap.size w w' := by
  have R := Asd.mk hr
  have O := Asd.mk h1
  have HB := Asd.mk hbig
  clear hbig
  rcases A with _ | a
  · have h0 : c = 0 := hr.nil rfl
    have h2 : n = 0 := by have := hr.cap; omega
    have h3 : xs = [] := List.eq_nil_of_length_eq_zero (by have := hr.len; omega)
    subst h0 h2 h3
    have hnil := fun w => Lib.run_eql_slice_nil (P := Tryz.prog) w 39 79 none 0 0 0 0 Tryz.underlying39
    clear hr h1 R O HB
    go_enter Tryz.func19, Tryz.ntmps19
    go_wp2
    go_ret
    exact ⟨none, 0, rfl, Rd.none_, World.ownsRow_nil _ _ _ _, Below.refl _ _⟩
  · have hnil := fun w => Lib.run_eql_slice_nil (P := Tryz.prog) w 39 79 (some a) n c 0 0 Tryz.underlying39
    clear hr h1
    go_enter Tryz.func19, Tryz.ntmps19
    go_wp2_with (at_builtin; refine wpList_append_mine (base := base) (own := w.heap.size) (v := .slice (some ⟨w.heap.size, 0, none⟩) 0 0) (n := 0) (xs := []) rfl (.tmp 5) (.tmp 6) 39 rfl elt_opN rfl rfl (World.ownsRow_made w #[] 0 (Nat.le_refl _) (by simp [maxLen]) (by simp)) (R.out.alloc _) O.out (by have := HB.out; simp only [maxLen]; omega) (by have := HB.out; omega) (by simp) ?_; intro v' w' O1 G1; rw [Nat.zero_add] at O1; rw [List.nil_append] at O1; obtain ⟨A', c', rfl, R1⟩ := Rd.of_own (base := base) O1)
    go_ret
    refine ⟨A', c', rfl, R1, O1, ?_⟩
    exact ((Below.refl _ _).alloc (Nat.le_refl _) _).grown G1 (by simp) (fun k hk => by simp [Value.ownBlock] at hk; subst hk; exact Nat.le_refl _)

set_option maxHeartbeats 4000000 in
set_option maxRecDepth 100000 in
theorem Clone_res {base : Nat} (w : World) (A : Option Addr) (n c : Nat) (xs : List Value) (hr : Rd base 81 w 4 A n c xs) (h1 : ∀ u ∈ xs, u.oneCell' = true) (hbig : n * 56 ≤ 140737488355328) :
    Calls Tryz.prog 72 #[.slice A n c] w fun e w' => ∃ A' c', e = .returned (.slice A' n c') ∧ Rd base 81 w' 4 A' n c' xs ∧ w'.ownsRow w.heap.size 81 4 (.slice A' n c') n xs ∧ Below w.heap.size w w' := by
  have R := Asd.mk hr
  have O := Asd.mk h1
  have HB := Asd.mk hbig
  clear hbig
  rcases A with _ | a
  · have h0 : c = 0 := hr.nil rfl
    have h2 : n = 0 := by have := hr.cap; omega
    have h3 : xs = [] := List.eq_nil_of_length_eq_zero (by have := hr.len; omega)
    subst h0 h2 h3
    have hnil := fun w => Lib.run_eql_slice_nil (P := Tryz.prog) w 47 81 none 0 0 0 0 Tryz.underlying47
    clear hr h1 R O HB
    go_enter Tryz.func72, Tryz.ntmps72
    go_wp2
    go_ret
    exact ⟨none, 0, rfl, Rd.none_, World.ownsRow_nil _ _ _ _, Below.refl _ _⟩
  · have hnil := fun w => Lib.run_eql_slice_nil (P := Tryz.prog) w 47 81 (some a) n c 0 0 Tryz.underlying47
    clear hr h1
    go_enter Tryz.func72, Tryz.ntmps72
    go_wp2_with (at_builtin; refine wpList_append_mine (base := base) (own := w.heap.size) (v := .slice (some ⟨w.heap.size, 0, none⟩) 0 0) (n := 0) (xs := []) rfl (.tmp 5) (.tmp 6) 47 rfl elt_res rfl rfl (World.ownsRow_made w #[] 0 (Nat.le_refl _) (by simp [maxLen]) (by simp)) (R.out.alloc _) O.out (by have := HB.out; simp only [maxLen]; omega) (by have := HB.out; omega) (by simp) ?_; intro v' w' O1 G1; rw [Nat.zero_add] at O1; rw [List.nil_append] at O1; obtain ⟨A', c', rfl, R1⟩ := Rd.of_own (base := base) O1)
    go_ret
    refine ⟨A', c', rfl, R1, O1, ?_⟩
    exact ((Below.refl _ _).alloc (Nat.le_refl _) _).grown G1 (by simp) (fun k hk => by simp [Value.ownBlock] at hk; subst hk; exact Nat.le_refl _)

set_option maxHeartbeats 4000000 in
set_option maxRecDepth 100000 in
theorem Clone_int {base : Nat} (w : World) (A : Option Addr) (n c : Nat) (xs : List Value) (hr : Rd base 3 w 1 A n c xs) (h1 : ∀ u ∈ xs, u.oneCell' = true) (hbig : n * 8 ≤ 140737488355328) :
    Calls Tryz.prog 17 #[.slice A n c] w fun e w' => ∃ A' c', e = .returned (.slice A' n c') ∧ Rd base 3 w' 1 A' n c' xs ∧ w'.ownsRow w.heap.size 3 1 (.slice A' n c') n xs ∧ Below w.heap.size w w' := by
  have R := Asd.mk hr
  have O := Asd.mk h1
  have HB := Asd.mk hbig
  clear hbig
  rcases A with _ | a
  · have h0 : c = 0 := hr.nil rfl
    have h2 : n = 0 := by have := hr.cap; omega
    have h3 : xs = [] := List.eq_nil_of_length_eq_zero (by have := hr.len; omega)
    subst h0 h2 h3
    have hnil := fun w => Lib.run_eql_slice_nil (P := Tryz.prog) w 31 3 none 0 0 0 0 Tryz.underlying31
    clear hr h1 R O HB
    go_enter Tryz.func17, Tryz.ntmps17
    go_wp2
    go_ret
    exact ⟨none, 0, rfl, Rd.none_, World.ownsRow_nil _ _ _ _, Below.refl _ _⟩
  · have hnil := fun w => Lib.run_eql_slice_nil (P := Tryz.prog) w 31 3 (some a) n c 0 0 Tryz.underlying31
    clear hr h1
    go_enter Tryz.func17, Tryz.ntmps17
    go_wp2_with (at_builtin; refine wpList_append_mine (base := base) (own := w.heap.size) (v := .slice (some ⟨w.heap.size, 0, none⟩) 0 0) (n := 0) (xs := []) rfl (.tmp 5) (.tmp 6) 31 rfl elt_int rfl rfl (World.ownsRow_made w #[] 0 (Nat.le_refl _) (by simp [maxLen]) (by simp)) (R.out.alloc _) O.out (by have := HB.out; simp only [maxLen]; omega) (by have := HB.out; omega) (by simp) ?_; intro v' w' O1 G1; rw [Nat.zero_add] at O1; rw [List.nil_append] at O1; obtain ⟨A', c', rfl, R1⟩ := Rd.of_own (base := base) O1)
    go_ret
    refine ⟨A', c', rfl, R1, O1, ?_⟩
    exact ((Below.refl _ _).alloc (Nat.le_refl _) _).grown G1 (by simp) (fun k hk => by simp [Value.ownBlock] at hk; subst hk; exact Nat.le_refl _)

set_option maxHeartbeats 4000000 in
set_option maxRecDepth 100000 in
theorem IndexFunc_op2 {base : Nat} {T : TypeId} (p : OpR → Bool) (g : Nat) (kb kc : Value) (eg : ∀ args w, (callFunc g args).run Tryz.prog w = .ok (.enter g args) w) (w : World)
    (A : Option Addr) (n c : Nat) (l : List OpR) (hr : Rd base T w 6 A n c (opCells l)) (hbig : n ≤ 140737488355328)
    (hp : ∀ (W : World) (x : OpR), Below w.heap.size w W → x ∈ l → Calls Tryz.prog g #[.agg x.enc.toArray, kb, kc] W fun e w' => e = .returned (.bool (p x)) ∧ Below W.heap.size W w') :
    Calls Tryz.prog 43 #[.slice A n c, .func (.func g) #[] #[kb, kc]] w fun e w' => e = .returned (.int .i64 (fidx p l)) ∧ Below w.heap.size w w' := by
  have hn := hr.count (enc := OpR.enc) (fun _ => rfl) (by omega)
  have R := Asd.mk hr
  have C := Asd.mk hp
  have N := Asd.mk hn
  clear hr hp hn
  go_enter Tryz.func43, Tryz.ntmps43
  go_wp2
  go_loopw [5, 8] (fun _ s8 wr => ∃ k : Nat, s8 = .int .i64 k ∧ k ≤ n ∧ Asd (Below w.heap.size w wr) ∧ Asd (∀ j (hj : j < l.length), j < k → p l[j] = false)) (fun _ s8 _ => n - (intOf s8).toNat)
  case atStart => exact ⟨0, rfl, Nat.zero_le _, ⟨Below.refl _ _⟩, ⟨fun j _ h => absurd h (Nat.not_lt_zero _)⟩⟩
  case round =>
    obtain ⟨k, rfl, hkn, BW, I⟩ := hrel
    by_cases hlt : k < n
    · obtain ⟨b, off, rfl, hb, hl, hcs⟩ := (R.out.below BW.out).at_enc (enc := OpR.enc) (fun _ => rfl) (by omega) hlt
      have hc := C.out wr l[k] BW.out (List.getElem_mem hl)
      generalize hy : l[k] = y at hcs hc
      have c0 := hcs 0 _ rfl
      have c1 := hcs 1 _ rfl
      have c2 := hcs 2 _ rfl
      have c3 := hcs 3 _ rfl
      have c4 := hcs 4 _ rfl
      have c5 := hcs 5 _ rfl
      rw [Nat.add_zero] at c0
      unfold OpR.enc at hc
      clear hcs
      have Y := Asd.mk hy
      clear hy
      cases hq : p y with
      | true =>
        rw [hq] at hc
        have Q := Asd.mk hq
        clear hq
        go_wp2_with fail
        refine hc.mono ?_
        rintro e w' ⟨rfl, hb'⟩
        go_wp2_with fail
        go_ret
        exact ⟨by rw [fidx_hit p l k hl (by rw [Y.out]; exact Q.out) I.out]; rfl, BW.out.trans (hb'.mono BW.out.size)⟩
      | false =>
        rw [hq] at hc
        have Q := Asd.mk hq
        clear hq
        go_wp2_with fail
        refine hc.mono ?_
        rintro e w' ⟨rfl, hb'⟩
        go_wp2_with fail
        go_roundw
        case measure => simp [intOf]; omega
        case rel =>
          refine ⟨k + 1, by go_num, by omega, ⟨BW.out.trans (hb'.mono BW.out.size)⟩, ⟨fun j hj hjk => ?_⟩⟩
          rcases Nat.lt_or_ge j k with h1 | h1
          · exact I.out j hj h1
          · obtain rfl : j = k := by omega
            rw [Y.out]; exact Q.out
    · go_wp2_with fail
      go_ret
      exact ⟨by rw [fidx_miss p l fun j hj => I.out j hj (by have := N.out; omega)]; rfl, BW.out⟩
end Go.Proofs.YtallnibjmffahaaGreatDoor

set_option linter.unusedVariables false
set_option linter.unusedSimpArgs false
namespace Go.Proofs.YtallnibjmffahaaGreatDoor
open Go.RowKit

theorem gb_alloc {w W : World} {r : Option Nat} (h : w.grownBy W r) (o : Obj) : w.grownBy (W.alloc o) r := gb_trans h (gb_below ((Below.refl _ _).alloc (Nat.le_refl _) o) r)
theorem gb_refl (w : World) (r : Option Nat) : w.grownBy w r := ⟨rfl, rfl, rfl, Nat.le_refl _, fun _ _ _ => rfl⟩
set_option maxHeartbeats 4000000 in
set_option maxRecDepth 100000 in
theorem fail_calls {w : World} {g : Nat} {k : CliK} {x : CliR} (h : CliAt w g k x) (at_ ec : Int) :
    Calls Tryz.prog 26 #[.pointer (some ⟨g, 0, none⟩), .int .i64 at_, .int .i64 ec] w fun e w' => e = .returned (.tuple #[]) ∧ CliAt w' g k { x with waits := false, there := true, pcl := k.id, psq := x.seq, pA := none, pn := 0, pc := 0, pat := at_, pcode := ec } ∧ w.grownBy w' (some g) := by
  have c0 : w.cell? ⟨g, 0, none⟩ = some (.int .i64 k.id) := h.at_ 0 _ rfl
  have c6 : w.cell? ⟨g, 6, none⟩ = some (.int .i64 x.seq) := h.at_ 6 _ rfl
  have C := Asd.mk (end_calls h.dr k.id x.seq at_ ec none 0 0)
  have hl := h.lt
  clear h
  go_enter Tryz.func26, Tryz.ntmps26
  go_region_with (go_at_call 31; refine C.out.mono ?_; rintro e w2 ⟨rfl, h2, h3⟩)
  all_goals
    have H2 := Asd.mk h2
    have H3 := Asd.mk h3
    clear h2 h3
    go_wp2_with fail
    go_end0
    exact ⟨rfl, H2.out, gb_trans (gb_dr (gb_refl w _)) H3.out⟩

set_option maxHeartbeats 4000000 in
set_option maxRecDepth 100000 in
theorem Take_no {w : World} {g : Nat} {k : CliK} {x : CliR} (h : CliAt w g k x) (ht : x.there = false) :
    Calls Tryz.prog 14 #[.pointer (some ⟨g, 0, none⟩)] w fun e w' => e = .returned (.tuple #[.agg #[.int .i64 0, .int .i64 0, .slice none 0 0, .int .i64 0, .int .i64 0], .int .i64 5]) ∧ Below w.heap.size w w' := by
  have c10 : w.cell? ⟨g, 10, none⟩ = some (.bool false) := h.at_ 10 _ (by rw [← ht]; rfl)
  have hl := h.lt
  clear h ht
  go_enter Tryz.func14, Tryz.ntmps14
  go_wp2_with fail
  refine bodyPost_ret (v := .tuple #[.agg #[.int .i64 0, .int .i64 0, .slice none 0 0, .int .i64 0, .int .i64 0], .int .i64 5]) (by simp [results, Tryz.results14, go_sem]) rfl ⟨rfl, (Below.refl _ _).alloc (Nat.le_refl _) _⟩

set_option maxHeartbeats 4000000 in
set_option maxRecDepth 100000 in
theorem Take_yes {w : World} {g : Nat} {k : CliK} {x : CliR} (h : CliAt w g k x) (ht : x.there = true) :
    Calls Tryz.prog 14 #[.pointer (some ⟨g, 0, none⟩)] w fun e w' => e = .returned (.tuple #[.agg #[.int .i64 x.pcl, .int .i64 x.psq, .slice x.pA x.pn x.pc, .int .i64 x.pat, .int .i64 x.pcode], .int .i64 0]) ∧ CliAt w' g k { x with waits := false, there := false } ∧ w.grownBy w' (some g) := by
  have c10 : w.cell? ⟨g, 10, none⟩ = some (.bool true) := h.at_ 10 _ (by rw [← ht]; rfl)
  have c9 : w.cell? ⟨g, 9, none⟩ = some (.bool x.waits) := h.at_ 9 _ rfl
  have c14 : w.cell? ⟨g, 14, none⟩ = some (.int .i64 x.pcl) := h.at_ 14 _ rfl
  have c15 : w.cell? ⟨g, 15, none⟩ = some (.int .i64 x.psq) := h.at_ 15 _ rfl
  have c16 : w.cell? ⟨g, 16, none⟩ = some (.slice x.pA x.pn x.pc) := h.at_ 16 _ rfl
  have c17 : w.cell? ⟨g, 17, none⟩ = some (.int .i64 x.pat) := h.at_ 17 _ rfl
  have c18 : w.cell? ⟨g, 18, none⟩ = some (.int .i64 x.pcode) := h.at_ 18 _ rfl
  have f9 := h.fr 9
  have f10 := h.fr 10
  have hl := h.lt
  have H := Asd.mk h
  clear h ht
  go_enter Tryz.func14, Tryz.ntmps14
  go_wp2_with fail
  refine bodyPost_ret (v := .tuple #[.agg #[.int .i64 x.pcl, .int .i64 x.psq, .slice x.pA x.pn x.pc, .int .i64 x.pat, .int .i64 x.pcode], .int .i64 0]) (by simp [results, Tryz.results14, go_sem]) rfl ⟨rfl, ?_, ?_⟩
  · exact ((H.out.set (y := { x with waits := false }) 9 (.bool false) rfl).set (y := { x with waits := false, there := false }) 10 (.bool false) rfl).below ((Below.refl _ _).alloc (Nat.le_refl _) _)
  · exact gb_alloc (gb_at (gb_at (gb_refl w _) _ _) _ _) _

set_option maxHeartbeats 4000000 in
set_option maxRecDepth 100000 in
theorem apart1_calls {base : Nat} {w : World} {g cb fb : Nat} {k : CliK} {x : CliR} (h : CliAt w g k x) (ho : One base w k.wA k.wc) (hc : w.cell? ⟨cb, 0, none⟩ = some (.pointer (some ⟨g, 0, none⟩))) (hcl : cb < w.heap.size) (hf : w.cell? ⟨fb, 0, none⟩ = some (.int .i64 0)) (hfl : fb < w.heap.size) (y : OpR) (hy : y.key.size ≤ 64) :
    Calls Tryz.prog 45 #[.agg y.enc.toArray, .pointer (some ⟨cb, 0, none⟩), .pointer (some ⟨fb, 0, none⟩)] w fun e w' => e = .returned (.bool false) ∧ Below w.heap.size w w' := by
  have hal := (Below.refl w.heap.size w).alloc (Nat.le_refl _) (.cells y.enc.toArray 79)
  have B := Asd.mk hal
  have C := Asd.mk (fun W (hW : Below (w.alloc (.cells y.enc.toArray 79)).heap.size (w.alloc (.cells y.enc.toArray 79)) W) => chain_calls ((h.below hal).below hW) ((ho.below hal).below hW) y hy)
  have e1 : (w.alloc (.cells y.enc.toArray 79)).cell? ⟨cb, 0, none⟩ = some (.pointer (some ⟨g, 0, none⟩)) := (World.cell?_of_block (hal.block _ hcl)).trans hc
  have e2 : (w.alloc (.cells y.enc.toArray 79)).cell? ⟨fb, 0, none⟩ = some (.int .i64 0) := (World.cell?_of_block (hal.block _ hfl)).trans hf
  have hfl2 : fb < (w.alloc (.cells y.enc.toArray 79)).heap.size := Nat.lt_of_lt_of_le hfl hal.size
  have N := heap_alloc_new w (.cells y.enc.toArray 79)
  have n0 : (w.alloc (.cells y.enc.toArray 79)).cell? ⟨w.heap.size, 0, none⟩ = some (.int .i64 y.kind) := (cell_of_row _ _ 0 _ _ _ N).trans rfl
  have n1 : (w.alloc (.cells y.enc.toArray 79)).cell? ⟨w.heap.size, 1, none⟩ = some (.string y.key) := (cell_of_row _ _ 1 _ _ _ N).trans rfl
  have n2 : (w.alloc (.cells y.enc.toArray 79)).cell? ⟨w.heap.size, 2, none⟩ = some (.string y.val) := (cell_of_row _ _ 2 _ _ _ N).trans rfl
  have n3 : (w.alloc (.cells y.enc.toArray 79)).cell? ⟨w.heap.size, 3, none⟩ = some (.int .i64 y.stamp) := (cell_of_row _ _ 3 _ _ _ N).trans rfl
  have n4 : (w.alloc (.cells y.enc.toArray 79)).cell? ⟨w.heap.size, 4, none⟩ = some (.int .i64 y.test) := (cell_of_row _ _ 4 _ _ _ N).trans rfl
  have n5 : (w.alloc (.cells y.enc.toArray 79)).cell? ⟨w.heap.size, 5, none⟩ = some (.int .i64 y.most) := (cell_of_row _ _ 5 _ _ _ N).trans rfl
  clear hal h ho hc hf hcl hfl N
  go_enter Tryz.func45, Tryz.ntmps45
  go_upto_region 1 with fail
  generalize w.alloc (.cells y.enc.toArray 79) = w1 at B C e1 e2 hfl2 n0 n1 n2 n3 n4 n5 ⊢
  go_region_with (go_at_call 44; refine (C.out _ (Below.refl _ _).drew).mono ?_; rintro e w2 ⟨rfl, hb2⟩; have e3 := (World.cell?_of_block (hb2.block _ hfl2)).trans e2)
  all_goals
    have B2 := Asd.mk (B.out.drew.trans (hb2.mono B.out.size))
    clear hb2
    go_wp2_with fail
    go_ret
    first | exact ⟨rfl, B2.out⟩ | exact ⟨rfl, B2.out.drew⟩ | exact B2.out

end Go.Proofs.YtallnibjmffahaaGreatDoor

set_option linter.unusedVariables false
set_option linter.unusedSimpArgs false
namespace Go.Proofs.YtallnibjmffahaaGreatDoor
open Go.RowKit

set_option maxHeartbeats 4000000 in
set_option maxRecDepth 100000 in
theorem apart_calls {base bo : Nat} {w : World} {g : Nat} {k : CliK} {x : CliR} (h : CliAt w g k x) (ho : One base w k.wA k.wc) {A : Option Addr} {n c : Nat} {ops : List OpR} (hr : Rd bo 79 w 6 A n c (opCells ops)) (hn : 0 < n) (hbig : n ≤ 140737488355328) (hk : ∀ y ∈ ops, y.key.size ≤ 64) :
    Calls Tryz.prog 23 #[.pointer (some ⟨g, 0, none⟩), .slice A n c] w fun e w' => e = .returned (.int .i64 (-1)) ∧ Below w.heap.size w w' := by
  have hal := (Below.refl w.heap.size w).alloc (Nat.le_refl _) (.cells #[.pointer (some ⟨g, 0, none⟩)] 28)
  have B := Asd.mk hal
  have cw : (w.alloc (.cells #[.pointer (some ⟨g, 0, none⟩)] 28)).cell? ⟨w.heap.size, 0, none⟩ = some (.pointer (some ⟨g, 0, none⟩)) := (cell_of_row _ _ 0 _ _ _ (heap_alloc_new w (.cells #[.pointer (some ⟨g, 0, none⟩)] 28))).trans rfl
  have hwl : w.heap.size < (w.alloc (.cells #[.pointer (some ⟨g, 0, none⟩)] 28)).heap.size := by simp
  have CC := Asd.mk (fun W (hW : Below (w.alloc (.cells #[.pointer (some ⟨g, 0, none⟩)] 28)).heap.size (w.alloc (.cells #[.pointer (some ⟨g, 0, none⟩)] 28)) W) => And.intro ((h.below hal).below hW) (And.intro ((ho.below hal).below hW) ((hr.below hal).below hW)))
  have HK := Asd.mk hk
  clear hal h ho hr hk
  go_enter Tryz.func23, Tryz.ntmps23
  go_upto_region 1 with fail
  generalize w.alloc (.cells #[.pointer (some ⟨g, 0, none⟩)] 28) = w1 at B CC cw hwl ⊢
  obtain ⟨b, off, rfl, hb, hl, hcs⟩ := (CC.out _ (Below.refl _ _)).2.2.at_enc (enc := OpR.enc) (fun _ => rfl) (by omega) hn
  have hk0 := HK.out _ (List.getElem_mem hl)
  have HK0 := Asd.mk hk0
  generalize ops[0] = y at hcs HK0 hk0
  have C := Asd.mk (fun W (hW : Below w1.heap.size w1 W) => chain_calls (CC.out _ hW).1 (CC.out _ hW).2.1 y HK0.out)
  have c0 := hcs 0 _ rfl
  have c1 := hcs 1 _ rfl
  have c2 := hcs 2 _ rfl
  have c3 := hcs 3 _ rfl
  have c4 := hcs 4 _ rfl
  have c5 := hcs 5 _ rfl
  rw [Nat.zero_mul, Nat.add_zero] at c0 c1 c2 c3 c4 c5
  have hcap : 0 < c := Nat.lt_of_lt_of_le hn (CC.out _ (Below.refl _ _)).2.2.cap
  clear hcs hk0
  have m0 := World.new_ne w1 _ cw
  have m1 := World.new_ne w1 _ c0
  have KK := Asd.mk (fun W (h1 : Below w1.heap.size w1 W) => And.intro ((h1.cell (p := ⟨w.heap.size, 0, none⟩) hwl).trans cw) (And.intro ((h1.cell (p := ⟨b, off, none⟩) hb).trans c0) (And.intro ((h1.cell (p := ⟨b, off + 1, none⟩) hb).trans c1) (And.intro ((h1.cell (p := ⟨b, off + 2, none⟩) hb).trans c2) (And.intro ((h1.cell (p := ⟨b, off + 3, none⟩) hb).trans c3) (And.intro ((h1.cell (p := ⟨b, off + 4, none⟩) hb).trans c4) ((h1.cell (p := ⟨b, off + 5, none⟩) hb).trans c5)))))))
  have BL := Asd.mk (fun W W2 (h1 : Below w1.heap.size w1 W) (h2 : Below W.heap.size W W2) => h1.trans (h2.mono h1.size))
  go_cut [5] from 6 (fun s5 wc => ∃ fb : Nat, s5 = .pointer (some ⟨fb, 0, none⟩) ∧ fb < wc.heap.size ∧ Asd (Below w1.heap.size w1 wc) ∧ Asd (wc.cell? ⟨fb, 0, none⟩ = some (.int .i64 0)))
  case first =>
    go_region_held3 (fun w' => w'.cell? ⟨w.heap.size, 0, none⟩ = some (.pointer (some ⟨g, 0, none⟩)) ∧ w'.cell? ⟨b, off, none⟩ = some (.int .i64 y.kind) ∧ w'.cell? ⟨b, off + 1, none⟩ = some (.string y.key) ∧ w'.cell? ⟨b, off + 2, none⟩ = some (.string y.val) ∧ w'.cell? ⟨b, off + 3, none⟩ = some (.int .i64 y.stamp) ∧ w'.cell? ⟨b, off + 4, none⟩ = some (.int .i64 y.test) ∧ w'.cell? ⟨b, off + 5, none⟩ = some (.int .i64 y.most)) (go_keep) ((go_at_call 44; refine (C.out _ (by first | exact (Below.refl _ _).drew | exact ((Below.refl _ _).alloc (Nat.le_refl _) _).drew | exact ((Below.refl _ _).drew).alloc (Nat.le_refl _) _)).mono ?_; rintro e w2 ⟨rfl, hb2⟩; have BB := Asd.mk (BL.out _ _ (by first | exact (Below.refl _ _).drew | exact ((Below.refl _ _).alloc (Nat.le_refl _) _).drew | exact ((Below.refl _ _).drew).alloc (Nat.le_refl _) _) hb2); obtain ⟨d0, d1, d2, d3, d4, d5, d6⟩ := KK.out _ BB.out; obtain ⟨hc2, hf2⟩ := bcell hb2; have hz2 := hb2.size; have m3 := World.new_ne w2 _ d0; have m4 := World.new_ne w2 _ d1))
    · go_wp2_with fail
      go_meet
      case rel => exact ⟨w2.heap.size, rfl, by simp, ⟨BB.out.alloc BB.out.size _⟩, ⟨cell_of_row _ _ 0 _ _ _ (heap_alloc_new w2 (.cells #[.int .i64 0] 3))⟩⟩
    · have x0 := hc2 w1.heap.size 0 (by simp)
      have SZ : Asd (w1.heap.size < w2.heap.size) := ⟨Nat.lt_of_lt_of_le (show w1.heap.size < (w1.alloc _).heap.size by simp) hz2⟩
      go_wp2_with fail
      go_meet
      case rel => exact ⟨w1.heap.size, rfl, by simpa [World.setCell] using SZ.out, ⟨BB.out.setCell (Nat.le_refl _) _⟩, ⟨World.cell?_setCell_same w2 ⟨w1.heap.size, 0, none⟩ _ (x0.trans (cell_of_row _ _ 0 _ _ _ (heap_alloc_new w1 (.cells #[.int .i64 0] 3))))⟩⟩
  case rest =>
    obtain ⟨fb, rfl, hfl, BC, HF⟩ := hcut
    have hcb : w.heap.size < wc.heap.size := Nat.lt_of_lt_of_le hwl BC.out.size
    have D := Asd.mk (fun W (hW : Below wc.heap.size wc W) (q : OpR) (hq : q.key.size ≤ 64) => apart1_calls (CC.out _ (BC.out.trans (hW.mono BC.out.size))).1 (CC.out _ (BC.out.trans (hW.mono BC.out.size))).2.1 ((hW.cell (p := ⟨w.heap.size, 0, none⟩) hcb).trans (KK.out _ BC.out).1) (Nat.lt_of_lt_of_le hcb hW.size) ((hW.cell (p := ⟨fb, 0, none⟩) hfl).trans HF.out) (Nat.lt_of_lt_of_le hfl hW.size) q hq)
    have E := Asd.mk (IndexFunc_op2 (base := bo) (T := 79) (fun _ => false) 45 (.pointer (some ⟨w.heap.size, 0, none⟩)) (.pointer (some ⟨fb, 0, none⟩)) (enters_of Tryz.func45 (by kernel_rfl) rfl) wc (some ⟨b, off, none⟩) n c ops (CC.out _ BC.out).2.2 hbig (fun W q hW hq => D.out W hW q (HK.out q hq)))
    have FX : Asd (fidx (fun _ : OpR => false) ops = -1) := ⟨fidx_miss _ _ (fun _ _ => rfl)⟩
    clear m0 m1 c0 c1 c2 c3 c4 c5 cw
    go_wp2_with fail
    refine E.out.mono ?_
    rintro e w4 ⟨rfl, hb4⟩
    rw [FX.out]
    have B4 := Asd.mk (B.out.trans ((BC.out.trans (hb4.mono BC.out.size)).mono B.out.size))
    clear hb4
    go_wp2_with fail
    go_ret
    exact ⟨rfl, B4.out⟩
end Go.Proofs.YtallnibjmffahaaGreatDoor

set_option linter.unusedVariables false
set_option linter.unusedSimpArgs false
namespace Go.Proofs.YtallnibjmffahaaGreatDoor
open Go.RowKit

theorem elt_letter : Elt Tryz.prog 58 61 2 24 := Elt.mk' Tryz.underlying58 (z := .agg #[.int .i64 0, .string ⟨#[]⟩]) (by kernel_rfl) rfl (by omega)
theorem CliAt.cells? {w : World} {g : Nat} {k : CliK} {x : CliR} (h : CliAt w g k x) : w.cell? ⟨g, 0, none⟩ = some (.int .i64 k.id) ∧ w.cell? ⟨g, 1, none⟩ = some (.int .i64 k.pt) ∧ w.cell? ⟨g, 2, none⟩ = some (.int .i64 k.tr) ∧ w.cell? ⟨g, 3, none⟩ = some (.int .i64 k.ver) ∧ w.cell? ⟨g, 4, none⟩ = some (.slice k.wA 1 k.wc) ∧ w.cell? ⟨g, 5, none⟩ = some (.int .i64 x.now) ∧ w.cell? ⟨g, 6, none⟩ = some (.int .i64 x.seq) ∧ w.cell? ⟨g, 7, none⟩ = some (.int .i64 x.tried) ∧ w.cell? ⟨g, 8, none⟩ = some (.int .i64 x.sent) ∧ w.cell? ⟨g, 9, none⟩ = some (.bool x.waits) ∧ w.cell? ⟨g, 10, none⟩ = some (.bool x.there) ∧ w.cell? ⟨g, 11, none⟩ = some (.int .i64 x.rcl) ∧ w.cell? ⟨g, 12, none⟩ = some (.int .i64 x.rsq) ∧ w.cell? ⟨g, 13, none⟩ = some (.slice x.rA x.rn x.rc) :=
  ⟨h.at_ 0 _ rfl, h.at_ 1 _ rfl, h.at_ 2 _ rfl, h.at_ 3 _ rfl, h.at_ 4 _ rfl, h.at_ 5 _ rfl, h.at_ 6 _ rfl, h.at_ 7 _ rfl, h.at_ 8 _ rfl, h.at_ 9 _ rfl, h.at_ 10 _ rfl, h.at_ 11 _ rfl, h.at_ 12 _ rfl, h.at_ 13 _ rfl⟩
/-- What a client sends. -/
def sentB (ver : Int) (s : ByteArray) : ByteArray := (encP [intF ver, txtF s]).1
def SendPost (base : Nat) (w : World) (g : Nat) (k : CliK) (x : CliR) (s : ByteArray) (e : Ending) (w' : World) : Prop :=
  e = .returned (.tuple #[]) ∧ ∃ oA oc, CliAt w' g k { x with oA := oA, on := 1, oc := oc, sent := x.now, tried := x.tried + 1 } ∧ Rd base 61 w' 2 oA 1 oc [.int .i64 0, .string (sentB k.ver s)] ∧ w.grownBy w' (some g)

set_option maxHeartbeats 4000000 in
set_option maxRecDepth 100000 in
theorem send_calls {base : Nat} {w : World} {g : Nat} {k : CliK} {x : CliR} {ops : List OpR} {s : ByteArray} (h : CliAt w g k x) (ho : One base w k.wA k.wc) (hr : Rd base 79 w 6 x.rA x.rn x.rc (opCells ops)) (hf : ∀ y ∈ ops, Fits y) (hok : reqOk x.rcl x.rsq ops = true) (hs : oencP x.rcl x.rsq ops = (s, 0)) (hs2 : s.size ≤ 60000)
    (hv : 0 ≤ k.ver ∧ k.ver ≤ 1073741824) (hoA : x.oA = none) (hon : x.on = 0) (hoc : x.oc = 0) (ht : 0 ≤ x.tried ∧ x.tried ≤ 1000) (hbs : base ≤ w.heap.size) (hge : base ≤ g) :
    Calls Tryz.prog 25 #[.pointer (some ⟨g, 0, none⟩)] w (SendPost base w g k x s) := by
  obtain ⟨c0, c1, c2, c3, c4, c5, c6, c7, c8, c9, c10, c11, c12, c13⟩ := h.cells?
  have hl := h.lt
  have hn := hr.count (enc := OpR.enc) (fun _ => rfl) (by omega)
  have hq := reqOk_parts hok
  have C1 := Asd.mk (OpEncode_calls x.rcl x.rsq hr hf (by omega) hbs)
  rw [hs] at C1
  have K1 := Asd.mk (fun W (hW : Below w.heap.size w W) => And.intro (h.below hW) (And.intro (ho.below hW) (hr.below hW)))
  have HT := Asd.mk ht
  have HO := Asd.mk (And.intro hoA (And.intro hon hoc))
  have HQ := Asd.mk hq
  have HN := Asd.mk hn
  have HS := Asd.mk hs2
  have HV := Asd.mk hv
  have HB := Asd.mk hbs
  have HGE := Asd.mk hge
  clear hge
  clear h ho hr hf hok hs hoA hon hoc ht hq hn hs2 hv hbs
  go_enter Tryz.func25, Tryz.ntmps25
  go_wp2_with fail
  refine C1.out.mono ?_
  rintro e w1 ⟨rfl, hb1⟩
  have B1 := Asd.mk hb1
  have c3' := (hb1.cell (p := ⟨g, 3, none⟩) hl).trans c3
  have hl1 := Nat.lt_of_lt_of_le hl hb1.size
  clear hb1 c0 c1 c2 c4 c5 c6 c7 c8 c9 c10 c11 c12 c13
  have C2 := Asd.mk (Encode_calls (base := w.heap.size) (w := w1.alloc (.cells #[.bool false, .int .i64 k.ver, .string ⟨#[]⟩, .bool true, .int .i64 0, .string s] 94)) (A := some ⟨w1.heap.size, 0, none⟩) (n := 2) (c := 2) (l := [intF k.ver, txtF s]) (Rd.new_ rfl rfl) (by
    intro f hf
    simp only [List.mem_cons, List.not_mem_nil, or_false] at hf
    rcases hf with rfl | rfl
    · exact (good_int HV.out.1 (by have := HV.out; omega)).1
    · exact (good_txt (by have := HS.out; omega)).1) (by have := B1.out.size; simp; omega))
  have EB : Asd ((encP [intF k.ver, txtF s]).1 = sentB k.ver s) := ⟨rfl⟩
  go_wp2_with fail
  refine C2.out.mono ?_
  rintro e w2 ⟨rfl, hb2⟩
  rw [EB.out]
  generalize (encP [intF k.ver, txtF s]).2 = ec
  have B2 := Asd.mk (B1.out.trans (((Below.refl w1.heap.size w1).alloc (Nat.le_refl _) _ |>.trans (hb2.mono (by simp))).mono B1.out.size))
  clear hb2 c3' C1 C2
  generalize sentB k.ver s = sb at EB
  go_wp2_with fail
  obtain ⟨hc, ho, hr⟩ := K1.out w2 B2.out
  have hn : 0 < x.rn := by have := HQ.out.2.2.1.1; have := HN.out; omega
  have c19 : w2.cell? ⟨g, 19, none⟩ = some (.slice none 0 0) := by
    have : w2.cell? ⟨g, 19, none⟩ = some (.slice x.oA x.on x.oc) := hc.at_ 19 _ rfl
    rw [HO.out.1, HO.out.2.1, HO.out.2.2] at this
    exact this
  have f19 := hc.fr 19
  have c13 : w2.cell? ⟨g, 13, none⟩ = some (.slice x.rA x.rn x.rc) := hc.at_ 13 _ rfl
  obtain ⟨b, off, hA, hbl, hil, hcs⟩ := hr.at_enc (enc := OpR.enc) (fun _ => rfl) (by omega) hn
  have hk0 := (opOk_good (HQ.out.2.2.2 _ (List.getElem_mem hil))).2.1
  have HK0 := Asd.mk hk0
  have hcap : 0 < x.rc := Nat.lt_of_lt_of_le hn hr.cap
  generalize ops[0] = y at hcs HK0 hk0
  have d0 := hcs 0 _ rfl
  have d1 := hcs 1 _ rfl
  have d2 := hcs 2 _ rfl
  have d3 := hcs 3 _ rfl
  have d4 := hcs 4 _ rfl
  have d5 := hcs 5 _ rfl
  rw [Nat.zero_mul, Nat.add_zero] at d0 d1 d2 d3 d4 d5
  rw [hA] at c13
  have CH : Asd (Calls Tryz.prog 44 #[.pointer (some ⟨g, 0, none⟩), .agg y.enc.toArray] w2.drew (fun e w' => e = .returned (.int .i64 0) ∧ ∃ _ : Below w2.heap.size w2 w', w'.cell? ⟨g, 19, none⟩ = some (.slice none 0 0) ∧ w'.frozen? ⟨g, 19, none⟩ = false ∧ g < w'.heap.size)) := ⟨(chain_calls hc.dr (ho.below (below_dn _ 1)) y hk0).mono (fun e w' h => ⟨h.1, (below_dn w2 1).trans h.2, (h.2.cell (p := ⟨g, 19, none⟩) hc.lt).trans c19, (h.2.frozen (p := ⟨g, 19, none⟩) hc.lt).trans f19, Nat.lt_of_lt_of_le hc.lt h.2.size⟩)⟩
  have HA := Asd.mk hA
  have hl2 := hc.lt
  clear hc ho hr hcs hk0 hA
  have t1 : True := trivial
  go_cut [] from 27 (fun wc => ∃ oA oc, Asd (CliAt wc g k { x with oA := oA, on := 1, oc := oc }) ∧ Asd (Rd base 61 wc 2 oA 1 oc [.int .i64 0, .string sb]) ∧ Asd (w.grownBy wc (some g)))
  case first =>
    go_region_law (first
      | (refine step_append_mine (base := w.heap.size) (own := w.heap.size) (n := 0) (m := 1) (v := .slice none 0 0) (xs := []) (ys := [.int .i64 0, .string sb]) rfl (.tmp 31) (.tmp 43) 58 rfl elt_letter rfl rfl (World.ownsRow_nil _ _ _ _) (Rd.new_ rfl rfl) (fun u hu => by simp at hu; rcases hu with rfl | rfl <;> rfl) (by simp [maxLen]) (by omega) (by have := B3.out.size; simp; omega) ?_
         intro v' w4 O4' G4'
         obtain ⟨oA, oc, rfl, hrd⟩ := Rd.of_own (base := base) O4'
         have R4 := Asd.mk hrd
         have B4 := Asd.mk (B3.out.trans ((((Below.refl w3.heap.size w3).alloc (Nat.le_refl _) _).grown G4' (by simp) (fun j hj => by simp [Value.ownBlock] at hj)).mono B3.out.size))
         have e19 := (B5.out _ B4.out).1
         have e20 := (B5.out _ B4.out).2.1
         have hl4 := (B5.out _ B4.out).2.2
         clear O4' G4' hrd)
      | (have _t := t1; go_simp; go_at_call 44; refine CH.out.mono ?_; rintro e w3 ⟨rfl, hb3, e19, f19', hl3⟩; have B3 := Asd.mk (B2.out.trans (hb3.mono B2.out.size)); have B5 := Asd.mk (fun W (hW : Below w.heap.size w W) => And.intro (show W.cell? ⟨g, 19, none⟩ = some (.slice x.oA x.on x.oc) from (K1.out W hW).1.at_ 19 _ rfl) (And.intro ((K1.out W hW).1.fr 19) (K1.out W hW).1.lt)); clear hb3 t1 _t; go_wp2_with fail))
    all_goals
      go_wp2_with fail
      go_meet
      case rel =>
        have hcl := (K1.out _ B4.out).1
        refine ⟨oA, oc, ?_, ?_, ?_⟩
        · exact ⟨by first | exact CliAt.dr (hcl.set 19 (.slice oA 1 oc) rfl) | exact hcl.set 19 (.slice oA 1 oc) rfl⟩
        · exact ⟨R4.out.setCell (p := ⟨g, 19, none⟩) hcl (by decide) HGE.out _⟩
        · exact ⟨by first | exact gb_dr (gb_at (gb_below B4.out _) _ _) | exact gb_at (gb_below B4.out _) _ _⟩
  case rest =>
    obtain ⟨oA, oc, HC, HR, HG⟩ := hcut
    clear HK0 CH HA
    have c5 : wc.cell? ⟨g, 5, none⟩ = some (.int .i64 x.now) := HC.out.at_ 5 _ rfl
    have c7 : wc.cell? ⟨g, 7, none⟩ = some (.int .i64 x.tried) := HC.out.at_ 7 _ rfl
    have c8 : wc.cell? ⟨g, 8, none⟩ = some (.int .i64 x.sent) := HC.out.at_ 8 _ rfl
    have f7 := HC.out.fr 7
    have f8 := HC.out.fr 8
    have hlc := HC.out.lt
    obtain ⟨ht1, ht2⟩ := HT.out
    clear c19 f19 c13 d0 d1 d2 d3 d4 d5
    go_wp2_with fail
    go_end0
    refine ⟨rfl, oA, oc, ?_, ?_, ?_⟩
    · exact (HC.out.set (y := { x with oA := oA, on := 1, oc := oc, sent := x.now }) 8 (.int .i64 x.now) rfl).set (y := { x with oA := oA, on := 1, oc := oc, sent := x.now, tried := x.tried + 1 }) 7 (.int .i64 (x.tried + 1)) rfl
    · rw [show sentB k.ver s = sb from EB.out]
      exact (HR.out.setCell (p := ⟨g, 8, none⟩) HC.out (by decide) HGE.out _).setCell (p := ⟨g, 7, none⟩) (HC.out.set (y := { x with oA := oA, on := 1, oc := oc, sent := x.now }) 8 (.int .i64 x.now) rfl) (by decide) HGE.out _
    · exact gb_at (gb_at HG.out _ _) _ _
end Go.Proofs.YtallnibjmffahaaGreatDoor

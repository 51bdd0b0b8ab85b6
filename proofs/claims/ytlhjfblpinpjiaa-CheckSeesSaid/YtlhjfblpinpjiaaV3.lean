/- The document's table: a list of rows; a key's place; a row put, a row dropped. The document's table: a row dropped; an operation that adds, changes. The document's table: an operation that adds, changes. -/
import Derived.Test.YtlhjfblpinpjiaaTb8w
import Derived.Laws.Cover1
import Derived.Test.YtlhjfblpinpjiaaTb5
set_option linter.unusedVariables false
set_option linter.unusedSimpArgs false
namespace Go.Proofs.Ytlhjfblpinpjiaa
open Go.RowKit

theorem lt_pos {l : List Rw} (h : Sorted l) (x : ByteArray) {i : Nat} (hi : i < l.length) : klt l[i].key x ↔ i < pos x l := by
  constructor
  · intro h1
    rcases Nat.lt_or_ge i (pos x l) with h2 | h2
    · exact h2
    · refine absurd h1 (drop_pos x l h _ ?_)
      rw [List.mem_drop_iff_getElem]
      exact ⟨i - pos x l, by omega, by congr 1; omega⟩
  · intro h1
    refine take_pos x l h _ ?_
    rw [List.mem_take_iff_getElem]
    exact ⟨i, by omega, rfl⟩

/-- The document's table at block g, made since base, has the rows l. -/
structure RTab (base : Nat) (w : World) (g : Nat) (l : List Rw) (A : Option Addr) (c : Nat) : Prop where
  blk : w.heap[g]? = some (.cells #[.slice A l.length c] 84 (0, 0))
  ge : base ≤ g
  rd : Rd base 86 w 3 A l.length c (rowCells l)
  srt : Sorted l
  big : l.length ≤ 4096
  old : ∀ a, A = some a → a.block < w.heap.size

section
variable {base g c : Nat} {w w' : World} {l : List Rw} {A : Option Addr}
theorem RTab.lt (h : RTab base w g l A c) : g < w.heap.size := (Array.getElem?_eq_some_iff.1 h.blk).1
theorem RTab.cell (h : RTab base w g l A c) : w.cell? ⟨g, 0, none⟩ = some (.slice A l.length c) := (cell_of_row w g 0 _ _ _ h.blk).trans rfl
theorem RTab.frozen (h : RTab base w g l A c) : w.frozen? ⟨g, 0, none⟩ = false := by simp [World.frozen?, h.blk]
theorem RTab.below (h : RTab base w g l A c) (hb : Below w.heap.size w w') : RTab base w' g l A c := ⟨(hb.block g h.lt).trans h.blk, h.ge, h.rd.below hb, h.srt, h.big, fun a ha => Nat.lt_of_lt_of_le (h.old a ha) hb.size⟩
theorem RTab.grownR {U : TypeId} {row : Option Nat} (h : RTab base w g l A c) (hg : w.grownBy w' row) (hr : ∀ j, row = some j → IsT w j U ∧ base ≤ j) (h1 : U ≠ 86) (h2 : U ≠ 84) : RTab base w' g l A c :=
  ⟨(hg.block g h.lt (fun e => (IsT.ne ⟨_, _, h.blk⟩ (hr g e.symm).1 h2.symm) rfl)).trans h.blk, h.ge, h.rd.grownR hg hr h1, h.srt, h.big, fun a ha => Nat.lt_of_lt_of_le (h.old a ha) hg.size⟩
end

set_option maxHeartbeats 2000000 in
set_option maxRecDepth 100000 in
theorem Find_calls {base g c : Nat} {w : World} {l : List Rw} {A : Option Addr} (h : RTab base w g l A c) (x : ByteArray) :
    Calls Try.prog 77 #[.pointer (some ⟨g, 0, none⟩), .string x] w fun e w' => e = .returned (.tuple #[.int .i64 (pos x l), .bool (there x l)]) ∧ Below w.heap.size w w' := by
  have H := Asd.mk h
  have hc := h.cell
  have hbig := h.big
  have LP := Asd.mk (fun i hi => lt_pos h.srt x (i := i) hi)
  have PT := Asd.mk (fun (ht : there x l = true) => pos_lt h.srt ht)
  clear h
  go_enter Try.func77, Try.ntmps77
  go_wp2_with fail
  go_loopw [6] (fun s6 wr => ∃ i : Nat, s6 = .int .i64 i ∧ i ≤ l.length ∧ i ≤ pos x l ∧ Asd (wr = w)) (fun s6 _ => l.length - (intOf s6).toNat)
  case atStart => exact ⟨0, rfl, Nat.zero_le _, Nat.zero_le _, ⟨rfl⟩⟩
  case round =>
    obtain ⟨i, rfl, hil, hip, HW⟩ := hrel
    obtain rfl := HW.out
    by_cases hlt : i < l.length
    · obtain ⟨b, off, rfl, _, _, c0, _, _⟩ := H.out.rd.row hlt
      have hcap : i < c := Nat.lt_of_lt_of_le hlt H.out.rd.cap
      have hlp := LP.out i hlt
      have hpt : there x l = true → ∀ hp : pos x l = i, l[i].key = x := fun ht hp => by
        obtain ⟨h1, h2⟩ := PT.out ht
        rw [rowAt_eq h1] at h2
        subst hp
        exact h2
      have hnt : l[i].key = x → there x l = true := fun h => (there_iff x l).2 ⟨l[i], List.getElem_mem _, h⟩
      have hle := less_eq l[i].key x
      have hse := same_eq l[i].key x
      generalize l[i].key = y at c0 hlp hpt hnt hle hse
      by_cases hk : klt y x
      · have hip2 := hlp.1 hk
        rw [decide_eq_true hk] at hle
        clear hlp hpt hnt hk hse
        go_wp2_with fail
        go_roundw
        case measure => simp [intOf]; omega
        case rel => exact ⟨i + 1, by go_num, by omega, by omega, ⟨by simp⟩⟩
      · have hpe : pos x l = i := by
          have : ¬ i < pos x l := fun h => hk (hlp.2 h)
          omega
        rw [decide_eq_false hk] at hle
        by_cases hyx : y = x
        · have TH := Asd.mk (hnt hyx)
          rw [decide_eq_true hyx] at hse
          have PE := Asd.mk hpe
          subst hyx
          clear hlp hpt hnt hk hpe hip
          go_wp2_with fail
          go_quiet (fail)
          go_wp2_with fail
          go_ret2
          exact ⟨by rw [TH.out, PE.out]; rfl, below_dn _ _⟩
        · have hth : there x l = false := by
            rw [Bool.eq_false_iff]
            exact fun ht => hyx (hpt ht hpe)
          have TH := Asd.mk hth
          have PE := Asd.mk hpe
          rw [decide_eq_false hyx] at hse
          have hne : ¬ y.toList = x.toList := fun e => hyx (by rw [toList_eq, toList_eq] at e; exact key_ext e)
          clear hlp hpt hnt hk hpe hip hth
          go_wp2_with fail
          go_quiet (fail)
          go_wp2_with fail
          go_ret2
          exact ⟨by rw [TH.out, PE.out]; rfl, below_dn _ _⟩
    · have hpe : pos x l = i := by have := pos_le x l; omega
      have hth : there x l = false := by
        rw [Bool.eq_false_iff]
        intro ht
        have := (PT.out ht).1
        omega
      have PE := Asd.mk hpe
      have TH := Asd.mk hth
      clear hpe hip hth
      go_wp2_with fail
      go_quiet (fail)
      go_wp2_with fail
      go_ret2
      exact ⟨by rw [TH.out, PE.out]; rfl, below_dn _ _⟩

theorem RTab.store {base g c c2 n2 : Nat} {w w2 : World} {l l' : List Rw} {A A2 : Option Addr} (h : RTab base w g l A c) (hb : Below w.heap.size w w2) (hr : Rd base 86 w2 3 A2 n2 c2 (rowCells l')) (hs : Sorted l') (hl : l'.length ≤ 4096) (hfr : Fr w A A2) (hlt : ∀ a, A2 = some a → a.block < w2.heap.size) :
    w.grownBy (w2.setCell ⟨g, 0, none⟩ (.slice A2 n2 c2)) (some g) ∧ ∃ A' c', RTab base (w2.setCell ⟨g, 0, none⟩ (.slice A2 n2 c2)) g l' A' c' ∧ Fr w A A' := by
  have hn : l'.length = n2 := hr.count (enc := Rw.enc) (fun _ => rfl) (by omega)
  subst hn
  have hg : w2.heap[g]? = _ := (hb.block g h.lt).trans h.blk
  refine ⟨⟨hb.os, hb.tape, hb.output, by simpa [World.setCell] using hb.size, fun k hk hne => ?_⟩, A2, c2, ⟨?_, h.ge, ?_, hs, hl, by simpa [World.setCell] using hlt⟩, hfr⟩
  · rw [Below.heap_setCell _ _ _ _ (by simpa using hne)]
    exact hb.block k hk
  · simp [World.setCell, Array.getElem?_modify, hg]
  · exact hr.setCell (p := ⟨g, 0, none⟩) hg (by decide) h.ge _

theorem Rd.rw1 {base b : Nat} {w : World} {y : Rw} (h : Rd base 86 w 3 (some ⟨b, 0, none⟩) 1 1 (rowCells [y])) : w.cell? ⟨b, 0, none⟩ = some (.string y.key) ∧ w.cell? ⟨b, 1, none⟩ = some (.int .i64 y.stamp) ∧ w.cell? ⟨b, 2, none⟩ = some (.string y.val) := by
  obtain ⟨b', off', hA, _, hl', hc⟩ := h.at_enc (enc := Rw.enc) (fun _ => rfl) (by omega) (i := 0) (by omega)
  cases hA
  exact ⟨hc 0 _ rfl, hc 1 _ rfl, hc 2 _ rfl⟩
/-- A row put where it stands. -/
def putL (l : List Rw) (r : Rw) : List Rw := l.take (pos r.key l) ++ [r] ++ l.drop (if there r.key l = true then pos r.key l + 1 else pos r.key l)
theorem putL_sorted {l : List Rw} (h : Sorted l) (r : Rw) : Sorted (putL l r) := by
  unfold putL
  cases ht : there r.key l with
  | true =>
    rw [if_pos rfl]
    exact sorted_put h r _ (by omega) (drop_succ_pos h ht)
  | false =>
    rw [if_neg (by decide)]
    exact sorted_put h r _ (Nat.le_refl _) (notthere_drop h ht)
theorem putL_len {l : List Rw} (h : Sorted l) (r : Rw) : (putL l r).length = if there r.key l = true then l.length else l.length + 1 := by
  unfold putL
  have h1 := pos_le r.key l
  cases ht : there r.key l with
  | true =>
    have h2 := (pos_lt h ht).1
    rw [if_pos rfl, if_pos rfl]
    simp
    omega
  | false =>
    rw [if_neg (by decide), if_neg (by decide)]
    simp
    omega
def RPutPost (base : Nat) (w : World) (A : Option Addr) (g : Nat) (l' : List Rw) (e : Ending) (w' : World) : Prop :=
  e = .returned (.tuple #[]) ∧ w.grownBy w' (some g) ∧ ∃ A' c', RTab base w' g l' A' c' ∧ Fr w A A'
theorem rows_prefix {base n c : Nat} {w : World} {A : Option Addr} {l : List Rw} (h : Rd base 86 w 3 A n c (rowCells l)) {i : Nat} (hi : i ≤ n) : Rd base 86 w 3 A i c (rowCells (l.take i)) := by
  have hr := h.prefix_ (hi := i) (c' := c) hi (Nat.le_trans hi h.cap) (Nat.le_refl _) h.nil
  rwa [show (rowCells l).take (i * 3) = rowCells (l.take i) from flat_take Rw.enc 3 (fun _ => rfl) l i] at hr
theorem rows_cut {base n c : Nat} {w : World} {A : Option Addr} {l : List Rw} (h : Rd base 86 w 3 A n c (rowCells l)) {i : Nat} (hi : i ≤ n) : Rd base 86 w 3 (if c = i then A else A.map (·.add (i * 3))) (n - i) (c - i) (rowCells (l.drop i)) := by
  have hn := h.count (enc := Rw.enc) (fun _ => rfl) (by omega)
  have hr := h.cut (lo := i) (hi := n) (c' := c) hi (Nat.le_refl _) h.cap (Nat.le_refl _)
  rwa [show (rowCells l).drop (i * 3) = rowCells (l.drop i) from flat_drop Rw.enc 3 (fun _ => rfl) l i, List.take_of_length_le (by rw [show (rowCells (l.drop i)).length = (l.drop i).length * 3 from flat_len Rw.enc 3 (fun _ => rfl) _, List.length_drop, hn]; exact Nat.le_refl _)] at hr

set_option maxHeartbeats 4000000 in
set_option maxRecDepth 100000 in
theorem Rput_calls {base g c : Nat} {w : World} {l : List Rw} {A : Option Addr} (h : RTab base w g l A c) (r : Rw) (hbg : (putL l r).length ≤ 4096) :
    Calls Try.prog 84 #[.pointer (some ⟨g, 0, none⟩), .agg r.enc.toArray] w (RPutPost base w A g (putL l r)) := by
  have hbig := h.big
  have hpl := pos_le r.key l
  have H := Asd.mk h
  have SP := Asd.mk (putL_sorted h.srt r)
  have BG := Asd.mk hbg
  have hcap := h.rd.cap
  obtain ⟨k, st, v⟩ := r
  unfold Rw.enc
  simp only at hpl
  have hal : Below w.heap.size w (w.alloc (.cells #[.string k, .int .i64 st, .string v] 86)) := (Below.refl _ _).alloc (Nat.le_refl _) _
  have q0 : (w.alloc (.cells #[.string k, .int .i64 st, .string v] 86)).cell? ⟨w.heap.size, 0, none⟩ = some (.string k) := (cell_of_row _ _ 0 _ _ _ (heap_alloc_new w _)).trans rfl
  have XR : Asd (Rd base 86 (w.alloc (.cells #[.string k, .int .i64 st, .string v] 86)) 3 (some ⟨w.heap.size, 0, none⟩) 1 1 (rowCells [⟨k, st, v⟩])) := ⟨Rd.new_ rfl rfl⟩
  have B0 := Asd.mk hal
  clear h hbg hal
  go_enter Try.func84, Try.ntmps84
  go_wp2_with fail
  clear q0
  generalize (w.alloc (.cells #[.string k, .int .i64 st, .string v] 86)) = w0 at *
  refine (Find_calls (H.out.below B0.out) k).mono ?_
  rintro e w1 ⟨rfl, hb1⟩
  have B1 := Asd.mk (B0.out.trans (hb1.mono B0.out.size))
  have hcg := (H.out.below B1.out).cell
  have X1 := Asd.mk (XR.out.below hb1)
  have RX := Asd.mk (rows_prefix (H.out.below B1.out).rd hpl)
  clear hb1 XR B0
  have hpc : pos k l ≤ c := by omega
  have hpc2 : (0 : Int) ≤ (pos k l : Int) ∧ (pos k l : Int) ≤ (c : Int) ∧ (pos k l : Int) ≤ (l.length : Int) := by omega
  cases ht : there k l with
  | true =>
    have hto2 := (pos_lt H.out.srt ht).1
    have PL : Asd (putL l ⟨k, st, v⟩ = l.take (pos k l) ++ [⟨k, st, v⟩] ++ l.drop (pos k l + 1)) := ⟨by unfold putL; simp only; rw [if_pos ht]⟩
    clear ht
    have hw1 : IntKind.i64.wrap ((pos k l : Int) + 1) = (pos k l : Int) + 1 := IntWalk.i64_in _ (by omega)
    have RY : Asd (∀ W, Below w.heap.size w W → Rd base 86 W 3 (if c = pos k l + 1 then A else A.map (·.add ((pos k l + 1) * 3))) (l.length - (pos k l + 1)) (c - (pos k l + 1)) (rowCells (l.drop (pos k l + 1)))) := ⟨fun W hW => rows_cut (H.out.below hW).rd (by omega)⟩
    have HC : Asd (∀ W, Below w.heap.size w W → W.cell? ⟨g, 0, none⟩ = some (.slice A l.length c) ∧ W.frozen? ⟨g, 0, none⟩ = false) := ⟨fun W hW => ⟨(H.out.below hW).cell, (H.out.below hW).frozen⟩⟩
    obtain ⟨x0, x1, x2⟩ := X1.out.rw1
    have hpt : pos k l + 1 ≤ c ∧ pos k l + 1 ≤ l.length := by omega
    have hpi : (0 : Int) ≤ (pos k l : Int) + 1 ∧ (pos k l : Int) + 1 ≤ (c : Int) ∧ (pos k l : Int) + 1 ≤ (l.length : Int) := by omega
    go_wp2_with (first
      | (at_builtin; refine wpList_append_mine (base := base) (own := w.heap.size) (n := 0) (m := pos k l) (v := (.slice none 0 0)) (xs := []) (ys := rowCells (l.take (pos k l))) rfl (.tmp 14) (.tmp 20) 45 rfl elt_row rfl rfl (World.ownsRow_nil _ _ _ _) RX.out (row_one _) (by unfold maxLen; omega) (by omega) B1.out.size ?_; intro v2 w2 O2' G2'; rw [Nat.zero_add, List.nil_append] at O2'; obtain ⟨P2, c2, rfl, _⟩ := Rd.of_own (base := base) O2'; have O2 := Asd.mk O2'; have B2 := Asd.mk (B1.out.grown G2' B1.out.size (fun j hj => by cases hj)); obtain ⟨y0, y1, y2⟩ := (X1.out.below (⟨G2'.os, G2'.tape, G2'.output, G2'.size, fun q hq => G2'.block q hq (by simp [Value.ownBlock])⟩ : Below w1.heap.size w1 w2)).rw1; obtain ⟨z0, z1⟩ := HC.out w2 B2.out; clear O2' G2')
      | (at_builtin; refine wpList_append_mine (base := base) (own := w.heap.size) (n := pos k l) (m := 1) (v := (.slice P2 (pos k l) c2)) (xs := rowCells (l.take (pos k l))) (ys := rowCells [⟨k, st, v⟩]) rfl (.tmp 22) (.tmp 24) 45 rfl elt_row rfl rfl (O2.out.alloc _) (Rd.new_ rfl rfl) (row_one _) (by unfold maxLen; omega) (by omega) (Nat.le_trans B2.out.size (by simp)) ?_; intro v3 w3 O3' G3'; obtain ⟨P3, c3, rfl, _⟩ := Rd.of_own (base := base) O3'; have O3 := Asd.mk O3'; have B3 := Asd.mk ((B2.out.alloc B2.out.size _).grown G3' (Nat.le_trans B2.out.size (by simp)) (fun j hj => (O2.out.lt j hj).1)); obtain ⟨u0, u1⟩ := HC.out w3 B3.out; clear O3' G3')
      | (at_builtin; refine wpList_append_mine (base := base) (own := w.heap.size) (n := pos k l + 1) (m := l.length - (pos k l + 1)) (v := (.slice P3 (pos k l + 1) c3)) (xs := rowCells (l.take (pos k l)) ++ rowCells [⟨k, st, v⟩]) (ys := rowCells (l.drop (pos k l + 1))) rfl (.tmp 30) (.tmp 36) 45 rfl elt_row rfl rfl O3.out (RY.out _ B3.out) (row_one _) (by unfold maxLen; omega) (by omega) B3.out.size ?_; intro v4 w4 O4' G4'; obtain ⟨P4, c4, rfl, _⟩ := Rd.of_own (base := base) O4'; have O4 := Asd.mk O4'; have B4 := Asd.mk (B3.out.grown G4' B3.out.size (fun j hj => (O3.out.lt j hj).1)); obtain ⟨t0, t1⟩ := HC.out w4 B4.out; clear O4' G4'))
    all_goals
      go_end0
      have hO := O4.out
      rw [show rowCells (l.take (pos k l)) ++ rowCells [⟨k, st, v⟩] ++ rowCells (l.drop (pos k l + 1)) = rowCells (putL l ⟨k, st, v⟩) from by rw [PL.out]; simp [rowCells]] at hO
      obtain ⟨_, _, e, hr⟩ := Rd.of_own (base := base) hO
      injection e with e1 _ e2
      subst e1 e2
      have hst := H.out.store B4.out hr SP.out BG.out (Fr.own hO (Nat.le_refl _)) (fun a ha => (hO.lt a.block (by rw [ha]; rfl)).2)
      rw [show pos k l + 1 + (l.length - (pos k l + 1)) = l.length by omega] at hst
      exact ⟨rfl, hst⟩
  | false =>
    have PL : Asd (putL l ⟨k, st, v⟩ = l.take (pos k l) ++ [⟨k, st, v⟩] ++ l.drop (pos k l)) := ⟨by unfold putL; simp only; rw [if_neg (by rw [ht]; decide)]⟩
    clear ht
    have hw1 : IntKind.i64.wrap ((pos k l : Int) + 1) = (pos k l : Int) + 1 := IntWalk.i64_in _ (by omega)
    have RY : Asd (∀ W, Below w.heap.size w W → Rd base 86 W 3 (if c = pos k l then A else A.map (·.add ((pos k l) * 3))) (l.length - (pos k l)) (c - (pos k l)) (rowCells (l.drop (pos k l)))) := ⟨fun W hW => rows_cut (H.out.below hW).rd (by omega)⟩
    have HC : Asd (∀ W, Below w.heap.size w W → W.cell? ⟨g, 0, none⟩ = some (.slice A l.length c) ∧ W.frozen? ⟨g, 0, none⟩ = false) := ⟨fun W hW => ⟨(H.out.below hW).cell, (H.out.below hW).frozen⟩⟩
    obtain ⟨x0, x1, x2⟩ := X1.out.rw1
    have hpt : pos k l ≤ c ∧ pos k l ≤ l.length := by omega
    have hpi : (0 : Int) ≤ (pos k l : Int) ∧ (pos k l : Int) ≤ (c : Int) ∧ (pos k l : Int) ≤ (l.length : Int) := by omega
    go_wp2_with (first
      | (at_builtin; refine wpList_append_mine (base := base) (own := w.heap.size) (n := 0) (m := pos k l) (v := (.slice none 0 0)) (xs := []) (ys := rowCells (l.take (pos k l))) rfl (.tmp 14) (.tmp 20) 45 rfl elt_row rfl rfl (World.ownsRow_nil _ _ _ _) RX.out (row_one _) (by unfold maxLen; omega) (by omega) B1.out.size ?_; intro v2 w2 O2' G2'; rw [Nat.zero_add, List.nil_append] at O2'; obtain ⟨P2, c2, rfl, _⟩ := Rd.of_own (base := base) O2'; have O2 := Asd.mk O2'; have B2 := Asd.mk (B1.out.grown G2' B1.out.size (fun j hj => by cases hj)); obtain ⟨y0, y1, y2⟩ := (X1.out.below (⟨G2'.os, G2'.tape, G2'.output, G2'.size, fun q hq => G2'.block q hq (by simp [Value.ownBlock])⟩ : Below w1.heap.size w1 w2)).rw1; obtain ⟨z0, z1⟩ := HC.out w2 B2.out; clear O2' G2')
      | (at_builtin; refine wpList_append_mine (base := base) (own := w.heap.size) (n := pos k l) (m := 1) (v := (.slice P2 (pos k l) c2)) (xs := rowCells (l.take (pos k l))) (ys := rowCells [⟨k, st, v⟩]) rfl (.tmp 22) (.tmp 24) 45 rfl elt_row rfl rfl (O2.out.alloc _) (Rd.new_ rfl rfl) (row_one _) (by unfold maxLen; omega) (by omega) (Nat.le_trans B2.out.size (by simp)) ?_; intro v3 w3 O3' G3'; obtain ⟨P3, c3, rfl, _⟩ := Rd.of_own (base := base) O3'; have O3 := Asd.mk O3'; have B3 := Asd.mk ((B2.out.alloc B2.out.size _).grown G3' (Nat.le_trans B2.out.size (by simp)) (fun j hj => (O2.out.lt j hj).1)); obtain ⟨u0, u1⟩ := HC.out w3 B3.out; clear O3' G3')
      | (at_builtin; refine wpList_append_mine (base := base) (own := w.heap.size) (n := pos k l + 1) (m := l.length - (pos k l)) (v := (.slice P3 (pos k l + 1) c3)) (xs := rowCells (l.take (pos k l)) ++ rowCells [⟨k, st, v⟩]) (ys := rowCells (l.drop (pos k l))) rfl (.tmp 30) (.tmp 36) 45 rfl elt_row rfl rfl O3.out (RY.out _ B3.out) (row_one _) (by unfold maxLen; omega) (by omega) B3.out.size ?_; intro v4 w4 O4' G4'; obtain ⟨P4, c4, rfl, _⟩ := Rd.of_own (base := base) O4'; have O4 := Asd.mk O4'; have B4 := Asd.mk (B3.out.grown G4' B3.out.size (fun j hj => (O3.out.lt j hj).1)); obtain ⟨t0, t1⟩ := HC.out w4 B4.out; clear O4' G4'))
    all_goals
      go_end0
      have hO := O4.out
      rw [show rowCells (l.take (pos k l)) ++ rowCells [⟨k, st, v⟩] ++ rowCells (l.drop (pos k l)) = rowCells (putL l ⟨k, st, v⟩) from by rw [PL.out]; simp [rowCells]] at hO
      obtain ⟨_, _, e, hr⟩ := Rd.of_own (base := base) hO
      injection e with e1 _ e2
      subst e1 e2
      have hst := H.out.store B4.out hr SP.out BG.out (Fr.own hO (Nat.le_refl _)) (fun a ha => (hO.lt a.block (by rw [ha]; rfl)).2)
      exact ⟨rfl, hst⟩

set_option maxHeartbeats 4000000 in
set_option maxRecDepth 100000 in
theorem Rdrop_calls {base g c : Nat} {w : World} {l : List Rw} {A : Option Addr} (h : RTab base w g l A c) (i : Nat) (hi : i < l.length) :
    Calls Try.prog 79 #[.pointer (some ⟨g, 0, none⟩), .int .i64 i] w (RPutPost base w A g (l.take i ++ l.drop (i + 1))) := by
  have H := Asd.mk h
  have hbig := h.big
  have hcap := h.rd.cap
  have hc := h.cell
  have hfz := h.frozen
  have hgl := h.lt
  have hdr : Below w.heap.size w w.drew := (Below.refl _ _).drew
  have RX : Asd (∀ W, Below w.heap.size w W → Rd base 86 W 3 A i c (rowCells (l.take i))) := ⟨fun W hW => rows_prefix (h.rd.below hW) (by omega)⟩
  have RY : Asd (∀ W, Below w.heap.size w W → Rd base 86 W 3 (if c = i + 1 then A else A.map (·.add ((i + 1) * 3))) (l.length - (i + 1)) (c - (i + 1)) (rowCells (l.drop (i + 1)))) := ⟨fun W hW => rows_cut (h.rd.below hW) (by omega)⟩
  have GB : Asd (∀ W, Below w.heap.size w W → W.cell? ⟨g, 0, none⟩ = some (.slice A l.length c) ∧ W.frozen? ⟨g, 0, none⟩ = false) := ⟨fun W hW => ⟨(h.below hW).cell, (h.below hW).frozen⟩⟩
  have DR := Asd.mk hdr
  have hw1 : IntKind.i64.wrap ((i : Int) + 1) = (i : Int) + 1 := IntWalk.i64_in _ (by omega)
  have hb1 : (0 : Int) ≤ (i : Int) ∧ (i : Int) ≤ (c : Int) ∧ (i : Int) ≤ (l.length : Int) ∧ (0 : Int) ≤ (i : Int) + 1 ∧ (i : Int) + 1 ≤ (c : Int) ∧ (i : Int) + 1 ≤ (l.length : Int) := by omega
  have hb2 : i ≤ c ∧ i ≤ l.length ∧ i + 1 ≤ c ∧ i + 1 ≤ l.length := by omega
  have SRT := Asd.mk (sorted_cut h.srt i (i + 1) (by omega))
  have LEN : Asd ((l.take i ++ l.drop (i + 1)).length ≤ 4096) := ⟨by simp; omega⟩
  clear h hdr
  go_enter Try.func79, Try.ntmps79
  go_wp2_with fail
  go_region_law (first
    | (refine step_append_mine (base := base) (own := w.heap.size) (n := 0) (m := i) (v := .slice (some ⟨w.heap.size, 0, none⟩) 0 0) (xs := []) (ys := rowCells (l.take i)) rfl (.tmp 5) (.tmp 11) 45 rfl elt_row rfl rfl (World.ownsRow_made w.drew #[] 0 (Nat.le_refl _) (by simp [maxLen]) (by simp)) ((RX.out _ DR.out).alloc _) (row_one _) (by simp only [maxLen]; omega) (by omega) (by simp) ?_
       intro v1 w1 O1 G1
       rw [Nat.zero_add, List.nil_append] at O1
       obtain ⟨A1, c1, rfl, _⟩ := Rd.of_own (base := base) O1
       have hw1' : Below w.heap.size w w1 := (DR.out.alloc (by simp) _).grown G1 (by simp) (fun k hk => by simp [Value.ownBlock] at hk; subst hk; exact Nat.le_refl _)
       obtain ⟨hc1, hf1⟩ := GB.out w1 hw1'
       have W1 := Asd.mk hw1'
       have OW := Asd.mk O1
       clear O1 G1 hw1')
    | (refine step_append_mine (base := base) (own := w.heap.size) (n := i) (m := l.length - (i + 1)) (xs := rowCells (l.take i)) (ys := rowCells (l.drop (i + 1))) rfl (.tmp 12) (.tmp 19) 45 rfl elt_row rfl rfl OW.out (RY.out _ W1.out) (row_one _) (by simp only [maxLen]; omega) (by omega) W1.out.size ?_
       intro v2 w2 O2 G2
       obtain ⟨A2, c2, rfl, _⟩ := Rd.of_own (base := base) O2
       have hw2 := W1.out.grown G2 W1.out.size (fun k hk => (OW.out.lt k hk).1)
       obtain ⟨hc2, hf2⟩ := GB.out w2 hw2
       have W2 := Asd.mk hw2
       have OV := Asd.mk O2
       clear O2 G2 hw2))
  all_goals
    go_end0
    have hO := OV.out
    rw [show rowCells (l.take i) ++ rowCells (l.drop (i + 1)) = rowCells (l.take i ++ l.drop (i + 1)) from by simp [rowCells]] at hO
    obtain ⟨_, _, e, hr⟩ := Rd.of_own (base := base) hO
    injection e with e1 _ e2
    subst e1 e2
    have hst := H.out.store W2.out hr SRT.out LEN.out (Fr.own hO (Nat.le_refl _)) (fun a ha => (hO.lt a.block (by rw [ha]; rfl)).2)
    exact ⟨rfl, hst⟩

theorem RTab.set {base g c : Nat} {w : World} {l : List Rw} {A : Option Addr} (h : RTab base w g l A c) {p : Addr} {U : TypeId} (hT : IsT w p.block U) (h1 : U ≠ 86) (h2 : U ≠ 84) (hge : base ≤ p.block) (u : Value) : RTab base (w.setCell p u) g l A c := by
  obtain ⟨cs, fr, e⟩ := hT
  have hne : g ≠ p.block := by
    rintro rfl
    rw [h.blk] at e
    injection e with e
    injection e with _ e
    exact h2 e.symm
  exact ⟨(Below.heap_setCell w p u g hne).trans h.blk, h.ge, h.rd.setCell e h1 hge u, h.srt, h.big, by simpa [World.setCell] using h.old⟩
theorem RTab.set4 {base g c : Nat} {w : World} {l : List Rw} {A : Option Addr} (h : RTab base w g l A c) {r : Nat} {U : TypeId} (hT : IsT w r U) (h1 : U ≠ 86) (h2 : U ≠ 84) (hge : base ≤ r) (u0 u1 u2 u3 : Value) :
    RTab base ((((w.setCell ⟨r, 0, none⟩ u0).setCell ⟨r, 1, none⟩ u1).setCell ⟨r, 2, none⟩ u2).setCell ⟨r, 3, none⟩ u3) g l A c :=
  (((h.set (p := ⟨r, 0, none⟩) hT h1 h2 hge u0).set (p := ⟨r, 1, none⟩) (hT.set _ _) h1 h2 hge u1).set (p := ⟨r, 2, none⟩) ((hT.set _ _).set _ _) h1 h2 hge u2).set (p := ⟨r, 3, none⟩) (((hT.set _ _).set _ _).set _ _) h1 h2 hge u3

def RWritePost (base : Nat) (w : World) (A : Option Addr) (g : Nat) (p : List Rw × Res) (e : Ending) (w' : World) : Prop :=
  e = .returned p.2.flat ∧ w.grownBy w' (some g) ∧ ∃ A' c', RTab base w' g p.1 A' c' ∧ Fr w A A'
theorem RWritePost.same {base g c : Nat} {w w' : World} {l : List Rw} {A : Option Addr} (h : RTab base w g l A c) (hb : Below w.heap.size w w') {r : Res} {e : Ending} (he : e = .returned r.flat) : RWritePost base w A g (l, r) e w' :=
  ⟨he, gb_below hb _, A, c, h.below hb, .inl rfl⟩

theorem gb_keep {W w3 : World} {g : Nat} (h : W.grownBy w3 (some g)) {b : Nat} (hb : b < W.heap.size) (hne : b ≠ g) : w3.heap[b]? = W.heap[b]? := h.block b hb (by simpa using hne)
def addP (l : List Rw) (x : OpR) : List Rw × Res :=
  if (4096 : Int) < x.val.size then (l, .fail 93 0) else if 4096 ≤ l.length then (l, .fail 22 0) else (putL l ⟨x.key, x.stamp, x.val⟩, .fail 0 x.stamp)

set_option maxHeartbeats 4000000 in
set_option maxRecDepth 100000 in
theorem Radd_calls {base g c : Nat} {w : World} {l : List Rw} {A : Option Addr} (h : RTab base w g l A c) (x : OpR) (hv : x.val.size ≤ 9223372036854775807) (hth : there x.key l = false) :
    Calls Try.prog 82 #[.pointer (some ⟨g, 0, none⟩), .agg x.enc.toArray] w (RWritePost base w A g (addP l x)) := by
  obtain ⟨kind, key, val, stamp, test, most⟩ := x
  simp only at hv hth
  generalize hp : addP l ⟨kind, key, val, stamp, test, most⟩ = p
  have P := Asd.mk hp
  clear hp
  unfold OpR.enc
  have H := Asd.mk h
  have hc := h.cell
  have hgl := h.lt
  have hl4 := h.big
  have TH := Asd.mk hth
  clear h hth
  by_cases h1 : (4096 : Int) < val.size
  · go_enter Try.func82, Try.ntmps82
    go_wp2_with fail
    refine bodyPost_ret (v := (Res.fail 93 0).flat) (by simp [results, Try.results82, go_sem, Res.flat, Res.fail]) rfl ?_
    rw [← P.out, show addP l _ = (l, Res.fail 93 0) from by simp [addP, h1]]
    refine RWritePost.same H.out ?_ rfl
    repeat (first | exact Below.refl _ _ | refine Below.setCell ?_ (by simp) _ | refine Below.alloc ?_ (by simp) _)
  · by_cases h2 : 4096 ≤ l.length
    · go_enter Try.func82, Try.ntmps82
      go_wp2_with fail
      refine bodyPost_ret (v := (Res.fail 22 0).flat) (by simp [results, Try.results82, go_sem, Res.flat, Res.fail]) rfl ?_
      rw [← P.out, show addP l _ = (l, Res.fail 22 0) from by simp only [addP]; rw [if_neg (by omega), if_pos (by omega)]]
      refine RWritePost.same H.out ?_ rfl
      repeat (first | exact Below.refl _ _ | refine Below.setCell ?_ (by simp) _ | refine Below.alloc ?_ (by simp) _)
    · have PC : Asd (∀ W, Below w.heap.size w W → Calls Try.prog 84 #[.pointer (some ⟨g, 0, none⟩), .agg #[.string key, .int .i64 stamp, .string val]] W (RPutPost base W A g (putL l ⟨key, stamp, val⟩))) := ⟨fun W hW => Rput_calls (H.out.below hW) ⟨key, stamp, val⟩ (by rw [putL_len H.out.srt, if_neg (by rw [TH.out]; decide)]; omega)⟩
      have hl5 : ¬ (4096 : Int) ≤ (l.length : Int) := by omega
      go_enter Try.func82, Try.ntmps82
      go_wp2_with fail
      have hB : Below w.heap.size w ((w.alloc (.cells #[.int .i64 kind, .string key, .string val, .int .i64 stamp, .int .i64 test, .int .i64 most] 64)).alloc (.cells #[.int .i64 0, .int .i64 0, .string ⟨#[]⟩, .slice none 0 0] 47)) := ((Below.refl _ _).alloc (Nat.le_refl _) _).alloc (by simp) _
      refine (PC.out _ hB).mono ?_
      rintro e w3 ⟨rfl, hg3, A3, c3, hT3, hfr3⟩
      have hs3 : w.heap.size + 1 < w3.heap.size := by have := hg3.size; simp at this; omega
      have hs0 : w.heap.size < w3.heap.size := by omega
      have hn1 : w.heap.size ≠ g := by omega
      have hn2 : w.heap.size + 1 ≠ g := by omega
      have k1 := gb_keep hg3 (b := w.heap.size) (by simp; omega) hn1
      have k2 := gb_keep hg3 (b := w.heap.size + 1) (by simp) hn2
      have e0 : ((w.alloc (.cells #[.int .i64 kind, .string key, .string val, .int .i64 stamp, .int .i64 test, .int .i64 most] 64)).alloc (.cells #[.int .i64 0, .int .i64 0, .string ⟨#[]⟩, .slice none 0 0] 47)).heap[w.heap.size]? = some (.cells #[.int .i64 kind, .string key, .string val, .int .i64 stamp, .int .i64 test, .int .i64 most] 64 (0, 0)) := (Below.heap_alloc _ _ _ (by simp)).trans (heap_alloc_new w _)
      have e1 : ((w.alloc (.cells #[.int .i64 kind, .string key, .string val, .int .i64 stamp, .int .i64 test, .int .i64 most] 64)).alloc (.cells #[.int .i64 0, .int .i64 0, .string ⟨#[]⟩, .slice none 0 0] 47)).heap[w.heap.size + 1]? = some (.cells #[.int .i64 0, .int .i64 0, .string ⟨#[]⟩, .slice none 0 0] 47 (0, 0)) := by simpa using heap_alloc_new (w.alloc (.cells #[.int .i64 kind, .string key, .string val, .int .i64 stamp, .int .i64 test, .int .i64 most] 64)) (.cells #[.int .i64 0, .int .i64 0, .string ⟨#[]⟩, .slice none 0 0] 47)
      have y3 : w3.cell? ⟨w.heap.size, 3, none⟩ = some (.int .i64 stamp) := cell_of_row _ _ 3 _ _ _ (k1.trans e0)
      have r0 : w3.cell? ⟨w.heap.size + 1, 0, none⟩ = some (.int .i64 0) := cell_of_row _ _ 0 _ _ _ (k2.trans e1)
      have r1 : w3.cell? ⟨w.heap.size + 1, 1, none⟩ = some (.int .i64 0) := cell_of_row _ _ 1 _ _ _ (k2.trans e1)
      have r2 : w3.cell? ⟨w.heap.size + 1, 2, none⟩ = some (.string ⟨#[]⟩) := cell_of_row _ _ 2 _ _ _ (k2.trans e1)
      have r3 : w3.cell? ⟨w.heap.size + 1, 3, none⟩ = some (.slice none 0 0) := cell_of_row _ _ 3 _ _ _ (k2.trans e1)
      have f0 : ∀ o, w3.frozen? ⟨w.heap.size + 1, o, none⟩ = false := fun o => frozen_of_row _ _ o _ _ (k2.trans e1)
      have RE3 : Asd (IsT w3 (w.heap.size + 1) 47) := ⟨_, _, k2.trans e1⟩
      have G3 : Asd (w.grownBy w3 (some g)) := ⟨gb_trans (gb_below hB _) hg3⟩
      have T3 := Asd.mk hT3
      have FR3 := Asd.mk (Fr.mono (w := w) hfr3 (by simp; omega))
      clear hg3 hT3 hfr3 k1 k2 e0 e1 hB
      go_wp2_with fail
      refine bodyPost_ret (v := (Res.fail 0 stamp).flat) (by simp [results, Try.results82, go_sem, Res.flat, Res.fail, r0, r1, r2, r3, hs0, hs3]) rfl ?_
      rw [← P.out, show addP l _ = (putL l ⟨key, stamp, val⟩, Res.fail 0 stamp) from by simp only [addP]; rw [if_neg (by omega), if_neg (by omega)]]
      refine ⟨rfl, ?_, A3, c3, ?_, FR3.out⟩
      · repeat (first | exact G3.out | refine gb_set ?_ (by simp) _)
      · exact RTab.set4 T3.out RE3.out (by decide) (by decide) (by have := H.out.ge; omega) _ _ _ _
end Go.Proofs.Ytlhjfblpinpjiaa

/- The table: a key's place; small functions. -/
import Derived.Test.YtlhjfblpinpjiaaTb1
import Derived.BigRegion
import Derived.Deep.QuietTactic
import Derived.BigQuiet
import Derived.StillTailTactics
import Derived.Shelf.Abstract
import Derived.Deep.RegionLaw
set_option linter.unusedVariables false
set_option linter.unusedSimpArgs false
namespace Go.Proofs.Ytlhjfblpinpjiaa
open Go.RowKit

theorem at1_calls (x : ByteArray) (w : World) (r : Rw) :
    Calls Try.prog 74 #[.agg r.enc.toArray, .string x] w fun e w' => e = .returned (.int .i64 (Lib.compareBytes r.key.data.toList x.data.toList)) ∧ Below w.heap.size w w' := by
  unfold Rw.enc
  go_enter Try.func74, Try.ntmps74
  go_wp2_with (go_at_call 75; refine (strings_Compare _ _ _).mono ?_; rintro e w' ⟨rfl, rfl⟩)
  go_ret
  exact ⟨rfl, (Below.refl _ _).alloc (Nat.le_refl _) _⟩

/-- The table at block g, made since base, has the rows l. -/
structure Tab (base : Nat) (w : World) (g : Nat) (l : List Rw) (A : Option Addr) (c : Nat) : Prop where
  blk : w.heap[g]? = some (.cells #[.slice A l.length c] 88 (0, 0))
  ge : base ≤ g
  rd : Rd base 86 w 3 A l.length c (rowCells l)
  srt : Sorted l
  big : l.length ≤ 4096
  old : ∀ a, A = some a → a.block < w.heap.size

section
variable {base g c : Nat} {w w' : World} {l : List Rw} {A : Option Addr}
theorem Tab.lt (h : Tab base w g l A c) : g < w.heap.size := (Array.getElem?_eq_some_iff.1 h.blk).1
theorem Tab.cell (h : Tab base w g l A c) : w.cell? ⟨g, 0, none⟩ = some (.slice A l.length c) := (cell_of_row w g 0 _ _ _ h.blk).trans rfl
theorem Tab.below (h : Tab base w g l A c) (hb : Below w.heap.size w w') : Tab base w' g l A c := ⟨(hb.block g h.lt).trans h.blk, h.ge, h.rd.below hb, h.srt, h.big, fun a ha => Nat.lt_of_lt_of_le (h.old a ha) hb.size⟩
theorem Tab.grown (h : Tab base w g l A c) {g' : Nat} {cs : Array Value} {fr : Nat × Nat} (hg : w.grownBy w' (some g')) (hh : w.heap[g']? = some (.cells cs 88 fr)) (hge : base ≤ g') (hne : g ≠ g') : Tab base w' g l A c :=
  ⟨(hg.block g h.lt (by simpa using hne)).trans h.blk, h.ge, h.rd.grown hg hh (by decide) hge, h.srt, h.big, fun a ha => Nat.lt_of_lt_of_le (h.old a ha) hg.size⟩
end

theorem at_calls {base g c : Nat} {w : World} {l : List Rw} {A : Option Addr} (h : Tab base w g l A c) (x : ByteArray) :
    Calls Try.prog 60 #[.pointer (some ⟨g, 0, none⟩), .string x] w fun e w' => e = .returned (.tuple #[.int .i64 (pos x l), .bool (there x l)]) ∧ Below w.heap.size w w' := by
  have hc := h.cell
  have hb := bsearch (base := base) (T := 86) 74 (enters_of Try.func74 (by kernel_rfl) rfl) x w (fun W r => at1_calls x W r) A l.length c l h.rd rfl (by have := h.big; omega) h.srt
  clear h
  go_enter Try.func60, Try.ntmps60
  go_wp2_with fail
  refine hb.mono ?_
  rintro e w' ⟨rfl, hb'⟩
  go_wp2_with fail
  go_ret2
  exact ⟨rfl, hb'⟩

theorem New_calls (base : Nat) (w : World) (hb : base ≤ w.heap.size) :
    Calls Try.prog 22 #[] w fun e w' => ∃ g, e = .returned (.pointer (some ⟨g, 0, none⟩)) ∧ Tab base w' g [] none 0 ∧ w.heap.size ≤ g ∧ Below w.heap.size w w' := by
  go_enter Try.func22, Try.ntmps22
  go_wp2
  go_ret
  refine ⟨_, rfl, ⟨heap_alloc_new w _, hb, Rd.none_, List.Pairwise.nil, by simp, fun a ha => by cases ha⟩, Nat.le_refl _, (Below.refl _ _).alloc (Nat.le_refl _) _⟩

theorem Fork_calls2 {base g c : Nat} {w : World} {l : List Rw} {A : Option Addr} (h : Tab base w g l A c) (hb : base ≤ w.heap.size) :
    Calls Try.prog 42 #[.pointer (some ⟨g, 0, none⟩)] w fun e w' => ∃ g', e = .returned (.pointer (some ⟨g', 0, none⟩)) ∧ Tab base w' g' l A l.length ∧ w.heap.size ≤ g' ∧ Below w.heap.size w w' := by
  have hc := h.cell
  have hcap := h.rd.cap
  have H := Asd.mk h
  clear h
  go_enter Try.func42, Try.ntmps42
  go_wp2_with fail
  go_region
  go_wp2
  go_ret
  refine ⟨_, rfl, ?_, Nat.le_refl _, ((Below.refl _ _).alloc (Nat.le_refl _) _).drew⟩
  have h := H.out
  exact ⟨heap_alloc_new w _, hb, ((h.rd.prefix_ (Nat.le_refl _) (Nat.le_refl _) hcap (fun e => by have := h.rd.nil e; omega)).below (((Below.refl _ _).alloc (Nat.le_refl _) (.cells #[.slice A l.length l.length] 88)).drew)) |> fun x => by rwa [List.take_of_length_le (by rw [h.rd.len]; exact Nat.le_refl _)] at x, h.srt, h.big, fun a ha => by have := h.old a ha; simp; omega⟩

theorem Fork_calls {base g c : Nat} {w : World} {l : List Rw} {A : Option Addr} (h : Tab base w g l A c) (hb : base ≤ w.heap.size) :
    Calls Try.prog 42 #[.pointer (some ⟨g, 0, none⟩)] w fun e w' => ∃ g', e = .returned (.pointer (some ⟨g', 0, none⟩)) ∧ (∃ A' c', Tab base w' g' l A' c') ∧ w.heap.size ≤ g' ∧ Below w.heap.size w w' :=
  (Fork_calls2 h hb).mono fun _ _ ⟨g', h1, h2, h3⟩ => ⟨g', h1, ⟨A, _, h2⟩, h3⟩

theorem elt_row : Elt Try.prog 45 86 3 40 := Elt.mk' Try.underlying45 (z := .agg #[.string ⟨#[]⟩, .int .i64 0, .string ⟨#[]⟩]) (by kernel_rfl) rfl (by omega)

/-- The rows' slice is as it was, or lies in a new block. -/
def Fr (w : World) (A A' : Option Addr) : Prop := A' = A ∨ ∀ a, A' = some a → w.heap.size ≤ a.block
theorem Fr.own {w w2 : World} {own e k n m c : Nat} {A A' : Option Addr} {xs : List Value} (h : w2.ownsRow own e k (.slice A' n c) m xs) (hle : w.heap.size ≤ own) : Fr w A A' :=
  .inr fun a ha => Nat.le_trans hle (h.lt a.block (by rw [ha]; rfl)).1
theorem Fr.trans {w w1 : World} {A A1 A2 : Option Addr} (h : Fr w A A1) (k : Fr w1 A1 A2) (hs : w.heap.size ≤ w1.heap.size) : Fr w A A2 := by
  rcases k with rfl | k
  · exact h
  · exact .inr fun a ha => Nat.le_trans hs (k a ha)

theorem Fr.mono {w w1 : World} {A A' : Option Addr} (h : Fr w1 A A') (hs : w.heap.size ≤ w1.heap.size) : Fr w A A' := h.imp id fun k a ha => Nat.le_trans hs (k a ha)

/-- splice: rows in the place of some. -/
theorem splice_calls {base g c : Nat} {w : World} {l m : List Rw} {A : Option Addr} (h : Tab base w g l A c) (lo hi : Nat) (h1 : lo ≤ hi) (h2 : hi ≤ l.length)
    (B : Option Addr) (n d : Nat) (hm : Rd base 86 w 3 B n d (rowCells m)) (hn : n ≤ 4096) :
    Calls Try.prog 63 #[.pointer (some ⟨g, 0, none⟩), .int .i64 lo, .int .i64 hi, .slice B n d] w fun e w' => e = .returned (.tuple #[]) ∧
      w.grownBy w' (some g) ∧ ∃ A' c', w'.heap[g]? = some (.cells #[.slice A' (l.take lo ++ m ++ l.drop hi).length c'] 88 (0, 0)) ∧ Rd base 86 w' 3 A' (l.take lo ++ m ++ l.drop hi).length c' (rowCells (l.take lo ++ m ++ l.drop hi)) ∧ Fr w A A' ∧ ∀ a, A' = some a → a.block < w'.heap.size := by
  have hc := h.cell
  have hcap := h.rd.cap
  have hbig := h.big
  have hlc : lo ≤ c := by omega
  have hfz : w.frozen? ⟨g, 0, none⟩ = false := by simp [World.frozen?, h.blk]
  have H := Asd.mk h
  have M := Asd.mk hm
  have hml := hm.count (enc := Rw.enc) (fun _ => rfl) (by omega)
  have one : ∀ (q : List Rw), ∀ u ∈ rowCells q, u.oneCell' = true := by
    intro q u hu
    unfold rowCells at hu
    obtain ⟨r, _, hr⟩ := List.mem_flatMap.1 hu
    simp only [Rw.enc, List.mem_cons, List.not_mem_nil, or_false] at hr
    rcases hr with rfl | rfl | rfl <;> rfl
  have ONE := Asd.mk one
  have hdr : Below w.heap.size w w.drew := (Below.refl _ _).drew
  have rx := (h.rd.prefix_ (hi := lo) (c' := lo) (by omega) (Nat.le_refl _) hlc (fun e => by have := h.rd.nil e; omega)).below hdr
  have ry := (h.rd.cut (lo := hi) (hi := l.length) (c' := c) h2 (Nat.le_refl _) hcap (Nat.le_refl _)).below hdr
  rw [show (rowCells l).take (lo * 3) = rowCells (l.take lo) from flat_take Rw.enc 3 (fun _ => rfl) l lo] at rx
  rw [show (rowCells l).drop (hi * 3) = rowCells (l.drop hi) from flat_drop Rw.enc 3 (fun _ => rfl) l hi, List.take_of_length_le (by rw [show (rowCells (l.drop hi)).length = (l.drop hi).length * 3 from flat_len Rw.enc 3 (fun _ => rfl) _, List.length_drop]; exact Nat.le_refl _)] at ry
  have fin : ∀ (w2 : World) (A2 : Option Addr) (c2 n2 : Nat), Below w.heap.size w w2 → n2 = (l.take lo ++ m ++ l.drop hi).length → Rd base 86 w2 3 A2 n2 c2 (rowCells (l.take lo) ++ rowCells m ++ rowCells (l.drop hi)) → Fr w A A2 → (∀ a, A2 = some a → a.block < w2.heap.size) →
      w.grownBy (w2.setCell ⟨g, 0, none⟩ (.slice A2 n2 c2)) (some g) ∧ ∃ A' c', (w2.setCell ⟨g, 0, none⟩ (.slice A2 n2 c2)).heap[g]? = some (.cells #[.slice A' (l.take lo ++ m ++ l.drop hi).length c'] 88 (0, 0)) ∧ Rd base 86 (w2.setCell ⟨g, 0, none⟩ (.slice A2 n2 c2)) 3 A' (l.take lo ++ m ++ l.drop hi).length c' (rowCells (l.take lo ++ m ++ l.drop hi)) ∧ Fr w A A' ∧ ∀ a, A' = some a → a.block < (w2.setCell ⟨g, 0, none⟩ (.slice A2 n2 c2)).heap.size := by
    intro w2 A2 c2 n2 hb2 hn2 hr2 hfr hlt
    subst hn2
    have hg : w2.heap[g]? = _ := (hb2.block g h.lt).trans h.blk
    refine ⟨⟨hb2.os, hb2.tape, hb2.output, by simpa [World.setCell] using hb2.size, fun k hk hne => ?_⟩, A2, c2, ?_, ?_, hfr, by simpa [World.setCell] using hlt⟩
    · rw [Below.heap_setCell _ _ _ _ (by simpa using hne)]
      exact hb2.block k hk
    · simp [World.setCell, Array.getElem?_modify, hg]
    · have : rowCells (l.take lo ++ m ++ l.drop hi) = rowCells (l.take lo) ++ rowCells m ++ rowCells (l.drop hi) := by simp [rowCells]
      rw [this]
      exact hr2.setCell (p := ⟨g, 0, none⟩) hg (by decide) h.ge _
  have hgb : ∀ w2, Below w.heap.size w w2 → w2.cell? ⟨g, 0, none⟩ = some (.slice A l.length c) ∧ w2.frozen? ⟨g, 0, none⟩ = false := fun w2 hb2 =>
    ⟨(hb2.cell (p := ⟨g, 0, none⟩) h.lt).trans h.cell, (hb2.frozen (p := ⟨g, 0, none⟩) h.lt).trans hfz⟩
  have hlen : lo + n + (l.length - hi) = (l.take lo ++ m ++ l.drop hi).length := by simp [hml]; omega
  have RX := Asd.mk rx
  have RY := Asd.mk ry
  have RM := Asd.mk (hm.below hdr)
  have GB := Asd.mk hgb
  have FIN := Asd.mk fin
  have LEN := Asd.mk hlen
  have DR := Asd.mk hdr
  clear h hm hml one rx ry hgb fin hlen hdr
  by_cases hn0 : n = 0
  · subst hn0
    go_enter Try.func63, Try.ntmps63
    go_wp2_with fail
    go_region_law (first
      | (refine step_append_full (base := base) (xs := rowCells (l.take lo)) (ys := rowCells m) rfl (.tmp 15) (.tmp 16) 45 rfl elt_row rfl rfl RX.out RM.out (.inr rfl) (ONE.out m) (by simp only [maxLen]; omega) (by omega) ?_
         intro A1 c1 w1 F1
         obtain ⟨rfl, rfl⟩ : A = A1 ∧ lo = c1 := F1.how.elim (fun h => ⟨h.1.symm, h.2.1.symm⟩) (fun h => absurd h.2.2 (by omega))
         have hw1 := DR.out.trans F1.below
         have F := Asd.mk F1
         obtain ⟨hc1, hf1⟩ := GB.out w1 hw1
         have W1 := Asd.mk hw1
         clear F1 hw1)
      | (refine step_append_full (base := base) (xs := rowCells (l.take lo) ++ rowCells m) (ys := rowCells (l.drop hi)) rfl (.tmp 17) (.tmp 23) 45 rfl elt_row rfl rfl F.out.rd (RY.out.below F.out.below) (by omega) (ONE.out _) (by simp only [maxLen]; omega) (by omega) ?_
         intro A2 c2 w2 F2
         have hw2 := W1.out.trans (F2.below.mono W1.out.size)
         have FR : Asd (Fr w A A2) := ⟨F2.how.elim (fun h => .inl h.1) (fun h => Fr.own h.1 W1.out.size)⟩
         have LT : Asd (∀ a, A2 = some a → a.block < w2.heap.size) := ⟨fun a ha => F2.how.elim (fun h => Nat.lt_of_lt_of_le (H.out.old a (h.1.symm.trans ha)) hw2.size) (fun h => (h.1.lt a.block (by rw [ha]; rfl)).2)⟩
         have G := Asd.mk F2
         obtain ⟨hc2, hf2⟩ := GB.out w2 hw2
         have W2 := Asd.mk hw2
         clear F2 hw2))
    all_goals
      go_end0
      exact ⟨rfl, FIN.out w2 A2 c2 _ W2.out LEN.out G.out.rd FR.out LT.out⟩
  · go_enter Try.func63, Try.ntmps63
    go_wp2_with fail
    go_region_law (first
      | (refine step_append_full (base := base) (xs := rowCells (l.take lo)) (ys := rowCells m) rfl (.tmp 15) (.tmp 16) 45 rfl elt_row rfl rfl RX.out RM.out (.inl (by omega)) (ONE.out m) (by simp only [maxLen]; omega) (by omega) ?_
         intro A1 c1 w1 F1
         have OW := Asd.mk (F1.how.elim (fun h => absurd h.2.2 hn0) (fun h => h.1))
         have hw1 := DR.out.trans F1.below
         have F := Asd.mk F1
         obtain ⟨hc1, hf1⟩ := GB.out w1 hw1
         have W1 := Asd.mk hw1
         clear F1 hw1)
      | (refine step_append_mine (base := base) (own := w.heap.size) (xs := rowCells (l.take lo) ++ rowCells m) (ys := rowCells (l.drop hi)) rfl (.tmp 17) (.tmp 23) 45 rfl elt_row rfl rfl OW.out (RY.out.below F.out.below) (ONE.out _) (by simp only [maxLen]; omega) (by omega) W1.out.size ?_
         intro v2 w2 O2 G2
         obtain ⟨A2, c2, rfl, R2⟩ := Rd.of_own (base := base) O2
         have FR : Asd (Fr w A A2) := ⟨Fr.own O2 (Nat.le_refl _)⟩
         have LT : Asd (∀ a, A2 = some a → a.block < w2.heap.size) := ⟨fun a ha => (O2.lt a.block (by rw [ha]; rfl)).2⟩
         have hw2 := W1.out.grown G2 W1.out.size (fun k hk => (OW.out.lt k hk).1)
         have RR := Asd.mk R2
         obtain ⟨hc2, hf2⟩ := GB.out w2 hw2
         have W2 := Asd.mk hw2
         clear O2 G2 R2 hw2))
    all_goals
      go_end0
      exact ⟨rfl, FIN.out w2 A2 c2 _ W2.out LEN.out RR.out FR.out LT.out⟩
end Go.Proofs.Ytlhjfblpinpjiaa

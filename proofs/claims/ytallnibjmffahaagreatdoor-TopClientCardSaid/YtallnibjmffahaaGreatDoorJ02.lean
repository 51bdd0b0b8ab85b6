/- The table's leaves: comparing keys, finding a key by halves. The table: a key's place; small functions. The library's functions over rows and operations; what a row may be. -/
import Derived.Test.YtallnibjmffahaaGreatDoorProg
import Derived.Test.YtallnibjmffahaaGreatDoorJ01
import Derived.Test.YtallnibjmffahaaGreatDoorJ00
import Derived.Deep.LoopGhost
import Derived.BigRegion
import Derived.Deep.QuietTactic
import Derived.BigQuiet
import Derived.StillTailTactics
import Derived.Shelf.Abstract
import Derived.Deep.RegionLaw
import Derived.WalkSpells
set_option linter.unusedVariables false
set_option linter.unusedSimpArgs false
namespace Go.Proofs.YtallnibjmffahaaGreatDoor
open Go.RowKit

structure Rw where
  key : ByteArray
  stamp : Int
  val : ByteArray
def Rw.enc (r : Rw) : List Value := [.string r.key, .int .i64 r.stamp, .string r.val]
def rowCells (l : List Rw) : List Value := l.flatMap Rw.enc
instance : Inhabited Rw := ⟨⟨⟨#[]⟩, 0, ⟨#[]⟩⟩⟩

set_option maxRecDepth 100000 in
theorem strings_Compare (a b : ByteArray) (w : World) :
    Calls Tryz.prog 90 #[.string a, .string b] w fun e w' => e = .returned (.int .i64 (Lib.compareBytes a.data.toList b.data.toList)) ∧ w = w' := by
  have h : ∀ W : World, Calls Tryz.prog 103 #[.string a, .string b] W fun e w' => e = .returned (.int .i64 (Lib.compareBytes a.data.toList b.data.toList)) ∧ W = w' := by
    intro W
    go_enter Tryz.func103, Tryz.ntmps103
    go_wp2
    rw [run_callFunc_extern Tryz.func109 (by kernel_rfl) (by kernel_rfl) (by kernel_rfl) (e := Extern.BytealgCompare.compare) (by kernel_rfl), Lib.run_compareString]
    simp only [Result.andThen]
    rw [Oper.upon_value]
    go_wp2
    go_ret
    exact ⟨rfl, rfl⟩
  go_enter Tryz.func90, Tryz.ntmps90
  go_wp2_with (go_at_call 103; refine (h _).mono ?_; rintro e w' ⟨rfl, rfl⟩)
  go_ret
  exact ⟨rfl, rfl⟩

/-- The cells of element i of a slice of rows. -/
theorem Rd.row {base : Nat} {T : TypeId} {w : World} {n c : Nat} {A : Option Addr} {l : List Rw} (h : Rd base T w 3 A n c (rowCells l)) {i : Nat} (hi : i < n) :
    ∃ b off, A = some ⟨b, off, none⟩ ∧ b < w.heap.size ∧ ∃ hl : i < l.length, w.cell? ⟨b, off + i * 3, none⟩ = some (.string l[i].key) ∧ w.cell? ⟨b, off + i * 3 + 1, none⟩ = some (.int .i64 l[i].stamp) ∧ w.cell? ⟨b, off + i * 3 + 2, none⟩ = some (.string l[i].val) := by
  have hlen : l.length = n := h.count (fun _ => rfl) (by omega)
  obtain ⟨b, off, e, hb, hc⟩ := h.elem hi
  have hil : i < l.length := by omega
  have hget := fun j hj => flat_get Rw.enc 3 (fun _ => rfl) l i j hil hj
  refine ⟨b, off, e, hb, hil, ?_, ?_, ?_⟩
  · have := hc 0 (by omega)
    rw [show (rowCells l)[i * 3 + 0]? = _ from hget 0 (by omega)] at this
    simpa [Rw.enc] using this
  · have := hc 1 (by omega)
    rw [show (rowCells l)[i * 3 + 1]? = _ from hget 1 (by omega)] at this
    simpa [Rw.enc] using this
  · have := hc 2 (by omega)
    rw [show (rowCells l)[i * 3 + 2]? = _ from hget 2 (by omega)] at this
    simpa [Rw.enc] using this

/-- How many keys lie before x: where x stands, or would stand. -/
def pos (x : ByteArray) (l : List Rw) : Nat := l.countP fun r => decide (klt r.key x)
def there (x : ByteArray) (l : List Rw) : Bool := l.any fun r => decide (r.key = x)
def Sorted (l : List Rw) : Prop := l.Pairwise fun a b => klt a.key b.key

theorem countP_at {α : Type} (p : α → Bool) : ∀ (l : List α) (i : Nat), i ≤ l.length → (∀ t (h : t < l.length), t < i → p l[t] = true) → (∀ t (h : t < l.length), i ≤ t → p l[t] = false) → l.countP p = i
  | [], i, hi, _, _ => by simp at hi; simp [hi]
  | a :: r, 0, _, _, h2 => by
    rw [List.countP_eq_zero]
    intro x hx
    obtain ⟨t, ht, rfl⟩ := List.getElem_of_mem hx
    have := h2 t ht (Nat.zero_le _)
    simp [this]
  | a :: r, i + 1, hi, h1, h2 => by
    have ha : p a = true := h1 0 (by simp) (Nat.succ_pos _)
    rw [List.countP_cons_of_pos ha, countP_at p r i (by simpa using hi) (fun t h ht => h1 (t + 1) (by simpa using h) (by omega)) (fun t h h3 => h2 (t + 1) (by simpa using h) (by omega))]

theorem wrap_pos {n : Nat} (h : n ≤ 140737488355328) {a : Nat} (ha : a ≤ n) : IntKind.i64.wrap (a : Int) = a := IntWalk.i64_in _ (by omega)

set_option maxHeartbeats 1000000 in
/-- slices.BinarySearchFunc over rows, by a comparison with a key. -/
theorem bsearch {base : Nat} {T : TypeId} (g : Nat) (eg : ∀ args w, (callFunc g args).run Tryz.prog w = .ok (.enter g args) w) (x : ByteArray) (w : World)
    (hcmp : ∀ (W : World) (r : Rw), Calls Tryz.prog g #[.agg r.enc.toArray, .string x] W fun e w' => e = .returned (.int .i64 (Lib.compareBytes r.key.data.toList x.data.toList)) ∧ Below W.heap.size W w')
    (A : Option Addr) (n c : Nat) (l : List Rw) (hr : Rd base T w 3 A n c (rowCells l)) (hn : l.length = n) (hbig : n ≤ 140737488355328) (hs : Sorted l) :
    Calls Tryz.prog 88 #[.slice A n c, .string x, .func (.func g) #[] #[]] w fun e w' =>
      e = .returned (.tuple #[.int .i64 (pos x l), .bool (there x l)]) ∧ Below w.heap.size w w' := by
  have hfin : ∀ i, i ≤ n → (∀ t (h : t < l.length), t < i → klt l[t].key x) → (∀ t (h : t < l.length), i ≤ t → ¬ klt l[t].key x) → pos x l = i := fun i hi h1 h2 =>
    countP_at _ l i (by omega) (fun t h ht => decide_eq_true (h1 t h ht)) (fun t h ht => decide_eq_false (h2 t h ht))
  have hth : ∀ i (hi : i < l.length), (∀ t (h : t < l.length), t < i → klt l[t].key x) → ¬ klt l[i].key x → (there x l = true ↔ l[i].key = x) := by
    intro i hi h1 h2
    unfold there
    rw [List.any_eq_true]
    constructor
    · rintro ⟨r, hr, e⟩
      have e : r.key = x := of_decide_eq_true e
      obtain ⟨t, ht, rfl⟩ := List.getElem_of_mem hr
      rcases Nat.lt_trichotomy t i with h | h | h
      · exact absurd e (klt_ne (h1 t ht h))
      · subst h; exact e
      · have := List.pairwise_iff_getElem.1 hs i t hi ht h
        rw [e] at this
        exact absurd this h2
    · intro e
      exact ⟨_, List.getElem_mem hi, decide_eq_true e⟩
  have hth0 : (∀ t (h : t < l.length), klt l[t].key x) → there x l = false := by
    intro h1
    unfold there
    rw [List.any_eq_false]
    intro r hr
    obtain ⟨t, ht, rfl⟩ := List.getElem_of_mem hr
    simpa using klt_ne (h1 t ht)
  have FIN := Asd.mk hfin
  have TH := Asd.mk hth
  have TH0 := Asd.mk hth0
  have SR := Asd.mk hs
  have R := Asd.mk hr
  have C := Asd.mk hcmp
  have HN := Asd.mk hn
  clear hfin hth hth0 hs hr hcmp
  go_enter Tryz.func88, Tryz.ntmps88
  go_wp2
  go_loopw [9, 10] (fun s9 s10 wr => ∃ lo hi : Nat, s9 = .int .i64 lo ∧ s10 = .int .i64 hi ∧ lo ≤ hi ∧ hi ≤ n ∧ Asd (Below w.heap.size w wr) ∧
      Asd (∀ t (h : t < l.length), t < lo → klt l[t].key x) ∧ Asd (∀ t (h : t < l.length), hi ≤ t → ¬ klt l[t].key x)) (fun s9 s10 _ => (intOf s10 - intOf s9).toNat)
  case atStart => exact ⟨0, n, rfl, rfl, Nat.zero_le _, Nat.le_refl _, ⟨Below.refl _ _⟩, ⟨fun t _ ht => absurd ht (Nat.not_lt_zero _)⟩, ⟨fun t h ht => by omega⟩⟩
  case round =>
    obtain ⟨lo, hi, rfl, rfl, hlh, hin, BW, I1, I2⟩ := hrel
    by_cases hlt : lo < hi
    · obtain ⟨b, off, rfl, hb, hil, c0, c1, c2⟩ := (R.out.below BW.out).row (i := (lo + hi) / 2) (by omega)
      generalize hy : l[(lo + hi) / 2] = y at c0 c1 c2
      have hc := C.out wr y
      unfold Rw.enc at hc
      by_cases hyx : klt y.key x
      · have hneg : Lib.compareBytes y.key.data.toList x.data.toList < 0 := (cmp_lt _ _).2 hyx
        have Y := Asd.mk hy
        have YX := Asd.mk hyx
        clear hy hyx
        go_wp2_with fail
        refine hc.mono ?_
        rintro e w' ⟨rfl, hb'⟩
        go_wp2_with fail
        go_roundw
        case measure => simp [intOf]; omega
        case rel =>
          refine ⟨(lo + hi) / 2 + 1, hi, by go_num, rfl, by omega, hin, ⟨BW.out.trans (hb'.mono BW.out.size)⟩, ⟨fun t h ht => ?_⟩, I2⟩
          rcases Nat.lt_or_ge t ((lo + hi) / 2) with h1 | h1
          · exact klt_trans (List.pairwise_iff_getElem.1 SR.out t _ h hil h1) (by rw [Y.out]; exact YX.out)
          · obtain rfl : t = (lo + hi) / 2 := by omega
            rw [Y.out]; exact YX.out
      · have hneg : ¬ Lib.compareBytes y.key.data.toList x.data.toList < 0 := fun h => hyx ((cmp_lt _ _).1 h)
        have Y := Asd.mk hy
        have YX := Asd.mk hyx
        clear hy hyx
        go_wp2_with fail
        refine hc.mono ?_
        rintro e w' ⟨rfl, hb'⟩
        go_wp2_with fail
        go_roundw
        case measure => simp [intOf]; omega
        case rel =>
          refine ⟨lo, (lo + hi) / 2, rfl, by go_num, by omega, by omega, ⟨BW.out.trans (hb'.mono BW.out.size)⟩, I1, ⟨fun t h ht => ?_⟩⟩
          rcases Nat.lt_or_ge ((lo + hi) / 2) t with h1 | h1
          · intro h2
            exact YX.out (by rw [← Y.out]; exact klt_trans (List.pairwise_iff_getElem.1 SR.out _ t hil h h1) h2)
          · obtain rfl : t = (lo + hi) / 2 := by omega
            rw [Y.out]; exact YX.out
    · obtain rfl : hi = lo := by omega
      have hpos := FIN.out hi hin I1.out I2.out
      have P := Asd.mk hpos
      clear hpos
      by_cases hlast : hi < n
      · obtain ⟨b, off, rfl, hb, hil, c0, c1, c2⟩ := (R.out.below BW.out).row (i := hi) hlast
        have hth := TH.out hi hil I1.out (I2.out hi hil (Nat.le_refl _))
        generalize hy : l[hi] = y at c0 c1 c2 hth
        have hc := C.out wr y
        unfold Rw.enc at hc
        have TT := Asd.mk hth
        clear hth hy
        by_cases hyx : y.key = x
        · have hz : Lib.compareBytes y.key.data.toList x.data.toList = 0 := (cmp_zero _ _).2 hyx
          rw [hz] at hc
          have YX := Asd.mk hyx
          clear hyx hz
          go_wp2_with fail
          refine hc.mono ?_
          rintro e w' ⟨rfl, hb'⟩
          go_wp2_with fail
          go_ret2
          exact ⟨by rw [P.out, TT.out.2 YX.out]; rfl, BW.out.trans (hb'.mono BW.out.size)⟩
        · have hz : (Lib.compareBytes y.key.data.toList x.data.toList == 0) = false := by rw [beq_eq_false_iff_ne]; exact fun h => hyx ((cmp_zero _ _).1 h)
          have hf : there x l = false := by
            cases h : there x l
            · rfl
            · exact absurd (TT.out.1 h) hyx
          have HF := Asd.mk hf
          clear hyx hf
          go_wp2_with fail
          refine hc.mono ?_
          rintro e w' ⟨rfl, hb'⟩
          go_wp2_with fail
          go_ret2
          exact ⟨by rw [P.out, HF.out]; rfl, BW.out.trans (hb'.mono BW.out.size)⟩
      · have hf := TH0.out fun t h => I1.out t h (by omega)
        have HF := Asd.mk hf
        clear hf
        go_wp2_with fail
        go_ret2
        exact ⟨by rw [P.out, HF.out]; rfl, BW.out⟩

end Go.Proofs.YtallnibjmffahaaGreatDoor

set_option linter.unusedVariables false
set_option linter.unusedSimpArgs false
namespace Go.Proofs.YtallnibjmffahaaGreatDoor
open Go.RowKit

theorem at1_calls (x : ByteArray) (w : World) (r : Rw) :
    Calls Tryz.prog 89 #[.agg r.enc.toArray, .string x] w fun e w' => e = .returned (.int .i64 (Lib.compareBytes r.key.data.toList x.data.toList)) ∧ Below w.heap.size w w' := by
  unfold Rw.enc
  go_enter Tryz.func89, Tryz.ntmps89
  go_wp2_with (go_at_call 90; refine (strings_Compare _ _ _).mono ?_; rintro e w' ⟨rfl, rfl⟩)
  go_ret
  exact ⟨rfl, (Below.refl _ _).alloc (Nat.le_refl _) _⟩

/-- The table at block g, made since base, has the rows l. -/
structure Tab (base : Nat) (w : World) (g : Nat) (l : List Rw) (A : Option Addr) (c : Nat) : Prop where
  blk : w.heap[g]? = some (.cells #[.slice A l.length c] 77 (0, 0))
  ge : base ≤ g
  rd : Rd base 131 w 3 A l.length c (rowCells l)
  srt : Sorted l
  big : l.length ≤ 4096
  old : ∀ a, A = some a → a.block < w.heap.size

section
variable {base g c : Nat} {w w' : World} {l : List Rw} {A : Option Addr}
theorem Tab.lt (h : Tab base w g l A c) : g < w.heap.size := (Array.getElem?_eq_some_iff.1 h.blk).1
theorem Tab.cell (h : Tab base w g l A c) : w.cell? ⟨g, 0, none⟩ = some (.slice A l.length c) := (cell_of_row w g 0 _ _ _ h.blk).trans rfl
theorem Tab.below (h : Tab base w g l A c) (hb : Below w.heap.size w w') : Tab base w' g l A c := ⟨(hb.block g h.lt).trans h.blk, h.ge, h.rd.below hb, h.srt, h.big, fun a ha => Nat.lt_of_lt_of_le (h.old a ha) hb.size⟩
theorem Tab.grown (h : Tab base w g l A c) {g' : Nat} {cs : Array Value} {fr : Nat × Nat} (hg : w.grownBy w' (some g')) (hh : w.heap[g']? = some (.cells cs 77 fr)) (hge : base ≤ g') (hne : g ≠ g') : Tab base w' g l A c :=
  ⟨(hg.block g h.lt (by simpa using hne)).trans h.blk, h.ge, h.rd.grown hg hh (by decide) hge, h.srt, h.big, fun a ha => Nat.lt_of_lt_of_le (h.old a ha) hg.size⟩
end

theorem at_calls {base g c : Nat} {w : World} {l : List Rw} {A : Option Addr} (h : Tab base w g l A c) (x : ByteArray) :
    Calls Tryz.prog 74 #[.pointer (some ⟨g, 0, none⟩), .string x] w fun e w' => e = .returned (.tuple #[.int .i64 (pos x l), .bool (there x l)]) ∧ Below w.heap.size w w' := by
  have hc := h.cell
  have hb := bsearch (base := base) (T := 131) 89 (enters_of Tryz.func89 (by kernel_rfl) rfl) x w (fun W r => at1_calls x W r) A l.length c l h.rd rfl (by have := h.big; omega) h.srt
  clear h
  go_enter Tryz.func74, Tryz.ntmps74
  go_wp2_with fail
  refine hb.mono ?_
  rintro e w' ⟨rfl, hb'⟩
  go_wp2_with fail
  go_ret2
  exact ⟨rfl, hb'⟩

theorem New_calls (base : Nat) (w : World) (hb : base ≤ w.heap.size) :
    Calls Tryz.prog 7 #[] w fun e w' => ∃ g, e = .returned (.pointer (some ⟨g, 0, none⟩)) ∧ Tab base w' g [] none 0 ∧ w.heap.size ≤ g ∧ Below w.heap.size w w' := by
  go_enter Tryz.func7, Tryz.ntmps7
  go_wp2
  go_ret
  refine ⟨_, rfl, ⟨heap_alloc_new w _, hb, Rd.none_, List.Pairwise.nil, by simp, fun a ha => by cases ha⟩, Nat.le_refl _, (Below.refl _ _).alloc (Nat.le_refl _) _⟩

theorem Fork_calls2 {base g c : Nat} {w : World} {l : List Rw} {A : Option Addr} (h : Tab base w g l A c) (hb : base ≤ w.heap.size) :
    Calls Tryz.prog 57 #[.pointer (some ⟨g, 0, none⟩)] w fun e w' => ∃ g', e = .returned (.pointer (some ⟨g', 0, none⟩)) ∧ Tab base w' g' l A l.length ∧ w.heap.size ≤ g' ∧ Below w.heap.size w w' := by
  have hc := h.cell
  have hcap := h.rd.cap
  have H := Asd.mk h
  clear h
  go_enter Tryz.func57, Tryz.ntmps57
  go_wp2_with fail
  go_region
  go_wp2
  go_ret
  refine ⟨_, rfl, ?_, Nat.le_refl _, ((Below.refl _ _).alloc (Nat.le_refl _) _).drew⟩
  have h := H.out
  exact ⟨heap_alloc_new w _, hb, ((h.rd.prefix_ (Nat.le_refl _) (Nat.le_refl _) hcap (fun e => by have := h.rd.nil e; omega)).below (((Below.refl _ _).alloc (Nat.le_refl _) (.cells #[.slice A l.length l.length] 77)).drew)) |> fun x => by rwa [List.take_of_length_le (by rw [h.rd.len]; exact Nat.le_refl _)] at x, h.srt, h.big, fun a ha => by have := h.old a ha; simp; omega⟩

theorem Fork_calls {base g c : Nat} {w : World} {l : List Rw} {A : Option Addr} (h : Tab base w g l A c) (hb : base ≤ w.heap.size) :
    Calls Tryz.prog 57 #[.pointer (some ⟨g, 0, none⟩)] w fun e w' => ∃ g', e = .returned (.pointer (some ⟨g', 0, none⟩)) ∧ (∃ A' c', Tab base w' g' l A' c') ∧ w.heap.size ≤ g' ∧ Below w.heap.size w w' :=
  (Fork_calls2 h hb).mono fun _ _ ⟨g', h1, h2, h3⟩ => ⟨g', h1, ⟨A, _, h2⟩, h3⟩

theorem elt_row : Elt Tryz.prog 75 131 3 40 := Elt.mk' Tryz.underlying75 (z := .agg #[.string ⟨#[]⟩, .int .i64 0, .string ⟨#[]⟩]) (by kernel_rfl) rfl (by omega)

/-- The rows' slice is as it was, or lies in a new block. -/
def Fr (w : World) (A A' : Option Addr) : Prop := A' = A ∨ ∀ a, A' = some a → w.heap.size ≤ a.block
theorem Fr.own {w w2 : World} {own e k n m c : Nat} {A A' : Option Addr} {xs : List Value} (h : w2.ownsRow own e k (.slice A' n c) m xs) (hle : w.heap.size ≤ own) : Fr w A A' :=
  .inr fun a ha => Nat.le_trans hle (h.lt a.block (by rw [ha]; rfl)).1
theorem Fr.trans {w w1 : World} {A A1 A2 : Option Addr} (h : Fr w A A1) (k : Fr w1 A1 A2) (hs : w.heap.size ≤ w1.heap.size) : Fr w A A2 := by
  rcases k with rfl | k
  · exact h
  · exact .inr fun a ha => Nat.le_trans hs (k a ha)

theorem Fr.mono {w w1 : World} {A A' : Option Addr} (h : Fr w1 A A') (hs : w.heap.size ≤ w1.heap.size) : Fr w A A' := h.imp id fun k a ha => Nat.le_trans hs (k a ha)

/-- splice: rows in the place of some. -/
theorem splice_calls {base g c : Nat} {w : World} {l m : List Rw} {A : Option Addr} (h : Tab base w g l A c) (lo hi : Nat) (h1 : lo ≤ hi) (h2 : hi ≤ l.length)
    (B : Option Addr) (n d : Nat) (hm : Rd base 131 w 3 B n d (rowCells m)) (hn : n ≤ 4096) :
    Calls Tryz.prog 77 #[.pointer (some ⟨g, 0, none⟩), .int .i64 lo, .int .i64 hi, .slice B n d] w fun e w' => e = .returned (.tuple #[]) ∧
      w.grownBy w' (some g) ∧ ∃ A' c', w'.heap[g]? = some (.cells #[.slice A' (l.take lo ++ m ++ l.drop hi).length c'] 77 (0, 0)) ∧ Rd base 131 w' 3 A' (l.take lo ++ m ++ l.drop hi).length c' (rowCells (l.take lo ++ m ++ l.drop hi)) ∧ Fr w A A' ∧ ∀ a, A' = some a → a.block < w'.heap.size := by
  have hc := h.cell
  have hcap := h.rd.cap
  have hbig := h.big
  have hlc : lo ≤ c := by omega
  have hfz : w.frozen? ⟨g, 0, none⟩ = false := by simp [World.frozen?, h.blk]
  have H := Asd.mk h
  have M := Asd.mk hm
  have hml := hm.count (enc := Rw.enc) (fun _ => rfl) (by omega)
  have one : ∀ (q : List Rw), ∀ u ∈ rowCells q, u.oneCell' = true := by
    intro q u hu
    unfold rowCells at hu
    obtain ⟨r, _, hr⟩ := List.mem_flatMap.1 hu
    simp only [Rw.enc, List.mem_cons, List.not_mem_nil, or_false] at hr
    rcases hr with rfl | rfl | rfl <;> rfl
  have ONE := Asd.mk one
  have hdr : Below w.heap.size w w.drew := (Below.refl _ _).drew
  have rx := (h.rd.prefix_ (hi := lo) (c' := lo) (by omega) (Nat.le_refl _) hlc (fun e => by have := h.rd.nil e; omega)).below hdr
  have ry := (h.rd.cut (lo := hi) (hi := l.length) (c' := c) h2 (Nat.le_refl _) hcap (Nat.le_refl _)).below hdr
  rw [show (rowCells l).take (lo * 3) = rowCells (l.take lo) from flat_take Rw.enc 3 (fun _ => rfl) l lo] at rx
  rw [show (rowCells l).drop (hi * 3) = rowCells (l.drop hi) from flat_drop Rw.enc 3 (fun _ => rfl) l hi, List.take_of_length_le (by rw [show (rowCells (l.drop hi)).length = (l.drop hi).length * 3 from flat_len Rw.enc 3 (fun _ => rfl) _, List.length_drop]; exact Nat.le_refl _)] at ry
  have fin : ∀ (w2 : World) (A2 : Option Addr) (c2 n2 : Nat), Below w.heap.size w w2 → n2 = (l.take lo ++ m ++ l.drop hi).length → Rd base 131 w2 3 A2 n2 c2 (rowCells (l.take lo) ++ rowCells m ++ rowCells (l.drop hi)) → Fr w A A2 → (∀ a, A2 = some a → a.block < w2.heap.size) →
      w.grownBy (w2.setCell ⟨g, 0, none⟩ (.slice A2 n2 c2)) (some g) ∧ ∃ A' c', (w2.setCell ⟨g, 0, none⟩ (.slice A2 n2 c2)).heap[g]? = some (.cells #[.slice A' (l.take lo ++ m ++ l.drop hi).length c'] 77 (0, 0)) ∧ Rd base 131 (w2.setCell ⟨g, 0, none⟩ (.slice A2 n2 c2)) 3 A' (l.take lo ++ m ++ l.drop hi).length c' (rowCells (l.take lo ++ m ++ l.drop hi)) ∧ Fr w A A' ∧ ∀ a, A' = some a → a.block < (w2.setCell ⟨g, 0, none⟩ (.slice A2 n2 c2)).heap.size := by
    intro w2 A2 c2 n2 hb2 hn2 hr2 hfr hlt
    subst hn2
    have hg : w2.heap[g]? = _ := (hb2.block g h.lt).trans h.blk
    refine ⟨⟨hb2.os, hb2.tape, hb2.output, by simpa [World.setCell] using hb2.size, fun k hk hne => ?_⟩, A2, c2, ?_, ?_, hfr, by simpa [World.setCell] using hlt⟩
    · rw [Below.heap_setCell _ _ _ _ (by simpa using hne)]
      exact hb2.block k hk
    · simp [World.setCell, Array.getElem?_modify, hg]
    · have : rowCells (l.take lo ++ m ++ l.drop hi) = rowCells (l.take lo) ++ rowCells m ++ rowCells (l.drop hi) := by simp [rowCells]
      rw [this]
      exact hr2.setCell (p := ⟨g, 0, none⟩) hg (by decide) h.ge _
  have hgb : ∀ w2, Below w.heap.size w w2 → w2.cell? ⟨g, 0, none⟩ = some (.slice A l.length c) ∧ w2.frozen? ⟨g, 0, none⟩ = false := fun w2 hb2 =>
    ⟨(hb2.cell (p := ⟨g, 0, none⟩) h.lt).trans h.cell, (hb2.frozen (p := ⟨g, 0, none⟩) h.lt).trans hfz⟩
  have hlen : lo + n + (l.length - hi) = (l.take lo ++ m ++ l.drop hi).length := by simp [hml]; omega
  have RX := Asd.mk rx
  have RY := Asd.mk ry
  have RM := Asd.mk (hm.below hdr)
  have GB := Asd.mk hgb
  have FIN := Asd.mk fin
  have LEN := Asd.mk hlen
  have DR := Asd.mk hdr
  clear h hm hml one rx ry hgb fin hlen hdr
  by_cases hn0 : n = 0
  · subst hn0
    go_enter Tryz.func77, Tryz.ntmps77
    go_wp2_with fail
    go_region_law (first
      | (refine step_append_full (base := base) (xs := rowCells (l.take lo)) (ys := rowCells m) rfl (.tmp 15) (.tmp 16) 75 rfl elt_row rfl rfl RX.out RM.out (.inr rfl) (ONE.out m) (by simp only [maxLen]; omega) (by omega) ?_
         intro A1 c1 w1 F1
         obtain ⟨rfl, rfl⟩ : A = A1 ∧ lo = c1 := F1.how.elim (fun h => ⟨h.1.symm, h.2.1.symm⟩) (fun h => absurd h.2.2 (by omega))
         have hw1 := DR.out.trans F1.below
         have F := Asd.mk F1
         obtain ⟨hc1, hf1⟩ := GB.out w1 hw1
         have W1 := Asd.mk hw1
         clear F1 hw1)
      | (refine step_append_full (base := base) (xs := rowCells (l.take lo) ++ rowCells m) (ys := rowCells (l.drop hi)) rfl (.tmp 17) (.tmp 23) 75 rfl elt_row rfl rfl F.out.rd (RY.out.below F.out.below) (by omega) (ONE.out _) (by simp only [maxLen]; omega) (by omega) ?_
         intro A2 c2 w2 F2
         have hw2 := W1.out.trans (F2.below.mono W1.out.size)
         have FR : Asd (Fr w A A2) := ⟨F2.how.elim (fun h => .inl h.1) (fun h => Fr.own h.1 W1.out.size)⟩
         have LT : Asd (∀ a, A2 = some a → a.block < w2.heap.size) := ⟨fun a ha => F2.how.elim (fun h => Nat.lt_of_lt_of_le (H.out.old a (h.1.symm.trans ha)) hw2.size) (fun h => (h.1.lt a.block (by rw [ha]; rfl)).2)⟩
         have G := Asd.mk F2
         obtain ⟨hc2, hf2⟩ := GB.out w2 hw2
         have W2 := Asd.mk hw2
         clear F2 hw2))
    all_goals
      go_end0
      exact ⟨rfl, FIN.out w2 A2 c2 _ W2.out LEN.out G.out.rd FR.out LT.out⟩
  · go_enter Tryz.func77, Tryz.ntmps77
    go_wp2_with fail
    go_region_law (first
      | (refine step_append_full (base := base) (xs := rowCells (l.take lo)) (ys := rowCells m) rfl (.tmp 15) (.tmp 16) 75 rfl elt_row rfl rfl RX.out RM.out (.inl (by omega)) (ONE.out m) (by simp only [maxLen]; omega) (by omega) ?_
         intro A1 c1 w1 F1
         have OW := Asd.mk (F1.how.elim (fun h => absurd h.2.2 hn0) (fun h => h.1))
         have hw1 := DR.out.trans F1.below
         have F := Asd.mk F1
         obtain ⟨hc1, hf1⟩ := GB.out w1 hw1
         have W1 := Asd.mk hw1
         clear F1 hw1)
      | (refine step_append_mine (base := base) (own := w.heap.size) (xs := rowCells (l.take lo) ++ rowCells m) (ys := rowCells (l.drop hi)) rfl (.tmp 17) (.tmp 23) 75 rfl elt_row rfl rfl OW.out (RY.out.below F.out.below) (ONE.out _) (by simp only [maxLen]; omega) (by omega) W1.out.size ?_
         intro v2 w2 O2 G2
         obtain ⟨A2, c2, rfl, R2⟩ := Rd.of_own (base := base) O2
         have FR : Asd (Fr w A A2) := ⟨Fr.own O2 (Nat.le_refl _)⟩
         have LT : Asd (∀ a, A2 = some a → a.block < w2.heap.size) := ⟨fun a ha => (O2.lt a.block (by rw [ha]; rfl)).2⟩
         have hw2 := W1.out.grown G2 W1.out.size (fun k hk => (OW.out.lt k hk).1)
         have RR := Asd.mk R2
         obtain ⟨hc2, hf2⟩ := GB.out w2 hw2
         have W2 := Asd.mk hw2
         clear O2 G2 R2 hw2))
    all_goals
      go_end0
      exact ⟨rfl, FIN.out w2 A2 c2 _ W2.out LEN.out RR.out FR.out LT.out⟩
end Go.Proofs.YtallnibjmffahaaGreatDoor

set_option linter.unusedVariables false
set_option linter.unusedSimpArgs false
namespace Go.Proofs.YtallnibjmffahaaGreatDoor
open Go.RowKit

theorem tl_nil (a : ByteArray) : (a.toList = []) = (a.size = 0) := by
  rw [toList_eq]
  apply propext
  constructor
  · intro h
    have : a.data.toList.length = a.size := by simp
    rw [h] at this
    exact this.symm
  · intro h; rw [size_zero h]

/-- The cells of element i of a slice of structs. -/
theorem Rd.at_enc {base : Nat} {T : TypeId} {w : World} {α : Type} {enc : α → List Value} {k n c : Nat} {A : Option Addr} {l : List α} (h : Rd base T w k A n c (l.flatMap enc)) (hk : ∀ x, (enc x).length = k) (h0 : 0 < k) {i : Nat} (hi : i < n) :
    ∃ b off, A = some ⟨b, off, none⟩ ∧ b < w.heap.size ∧ ∃ hl : i < l.length, ∀ j v, (enc l[i])[j]? = some v → w.cell? ⟨b, off + i * k + j, none⟩ = some v := by
  have hlen := h.count hk h0
  obtain ⟨b, off, e, hb, hc⟩ := h.elem hi
  have hil : i < l.length := by omega
  refine ⟨b, off, e, hb, hil, fun j v hj => ?_⟩
  have hjk : j < k := by
    have := (List.getElem?_eq_some_iff.1 hj).1
    rw [hk] at this
    exact this
  rw [hc j hjk, flat_get enc k hk l i j hil hjk]
  exact hj
/-- Loading element i whole. -/
theorem Rd.load {base : Nat} {T : TypeId} {w : World} {α : Type} {enc : α → List Value} {k n c : Nat} {A : Option Addr} {l : List α} (h : Rd base T w k A n c (l.flatMap enc)) (hk : ∀ x, (enc x).length = k) (h0 : 0 < k) {i : Nat} (hi : i < n) (P : Program) :
    ∃ b off, A = some ⟨b, off, none⟩ ∧ b < w.heap.size ∧ ∃ hl : i < l.length, Sem.run P (loadCellsFrom ⟨b, off + i * k, none⟩ 0 k #[]) w = .ok (enc l[i]).toArray w := by
  obtain ⟨b, off, e, hb, hl, hc⟩ := h.at_enc hk h0 hi
  exact ⟨b, off, e, hb, hl, run_load_list P w _ _ k (hk _) fun j v hj => by rw [add_lit']; exact hc j v hj⟩

def opCells (l : List OpR) : List Value := l.flatMap OpR.enc
/-- The place of the first that p holds of; -1. -/
def fidx {α : Type} (p : α → Bool) (l : List α) : Int := if l.any p then (l.findIdx p : Nat) else -1
theorem fidx_hit {α : Type} (p : α → Bool) (l : List α) (i : Nat) (hi : i < l.length) (h : p l[i] = true) (hb : ∀ j (hj : j < l.length), j < i → p l[j] = false) : fidx p l = i := by
  have h1 : l.any p = true := List.any_eq_true.2 ⟨_, List.getElem_mem hi, h⟩
  unfold fidx
  rw [if_pos h1]
  have : l.findIdx p = i := by
    rw [List.findIdx_eq hi]
    exact ⟨h, fun j hj => hb j (by omega) hj⟩
  rw [this]
theorem fidx_miss {α : Type} (p : α → Bool) (l : List α) (h : ∀ j (hj : j < l.length), p l[j] = false) : fidx p l = -1 := by
  have h1 : l.any p = false := by
    rw [List.any_eq_false]
    intro x hx
    obtain ⟨t, ht, rfl⟩ := List.getElem_of_mem hx
    rw [h t ht]
    simp
  unfold fidx
  rw [h1]
  rfl

set_option maxHeartbeats 1000000 in
/-- slices.IndexFunc over operations. -/
theorem IndexFunc_op {base : Nat} {T : TypeId} (p : OpR → Bool) (g : Nat) (eg : ∀ args w, (callFunc g args).run Tryz.prog w = .ok (.enter g args) w) (w : World)
    (A : Option Addr) (n c : Nat) (l : List OpR) (hr : Rd base T w 6 A n c (opCells l)) (hbig : n ≤ 140737488355328)
    (hp : ∀ (W : World) (x : OpR), x ∈ l → Calls Tryz.prog g #[.agg x.enc.toArray] W fun e w' => e = .returned (.bool (p x)) ∧ Below W.heap.size W w') :
    Calls Tryz.prog 43 #[.slice A n c, .func (.func g) #[] #[]] w fun e w' => e = .returned (.int .i64 (fidx p l)) ∧ Below w.heap.size w w' := by
  have hn := hr.count (enc := OpR.enc) (fun _ => rfl) (by omega)
  have R := Asd.mk hr
  have C := Asd.mk hp
  have N := Asd.mk hn
  clear hr hp hn
  go_enter Tryz.func43, Tryz.ntmps43
  go_wp2
  go_loopw [5, 8] (fun _ s8 wr => ∃ k : Nat, s8 = .int .i64 k ∧ k ≤ n ∧ Asd (Below w.heap.size w wr) ∧ Asd (∀ j (hj : j < l.length), j < k → p l[j] = false)) (fun _ s8 _ => n - (intOf s8).toNat)
  case atStart => exact ⟨0, rfl, Nat.zero_le _, ⟨Below.refl _ _⟩, ⟨fun j _ h => absurd h (Nat.not_lt_zero _)⟩⟩
  case round =>
    obtain ⟨k, rfl, hkn, BW, I⟩ := hrel
    by_cases hlt : k < n
    · obtain ⟨b, off, rfl, hb, hl, hcs⟩ := (R.out.below BW.out).at_enc (enc := OpR.enc) (fun _ => rfl) (by omega) hlt
      have hc := C.out wr l[k] (List.getElem_mem hl)
      generalize hy : l[k] = y at hcs hc
      have c0 := hcs 0 _ rfl
      have c1 := hcs 1 _ rfl
      have c2 := hcs 2 _ rfl
      have c3 := hcs 3 _ rfl
      have c4 := hcs 4 _ rfl
      have c5 := hcs 5 _ rfl
      rw [Nat.add_zero] at c0
      unfold OpR.enc at hc
      clear hcs
      have Y := Asd.mk hy
      clear hy
      cases hq : p y with
      | true =>
        rw [hq] at hc
        have Q := Asd.mk hq
        clear hq
        go_wp2_with fail
        refine hc.mono ?_
        rintro e w' ⟨rfl, hb'⟩
        go_wp2_with fail
        go_ret
        exact ⟨by rw [fidx_hit p l k hl (by rw [Y.out]; exact Q.out) I.out]; rfl, BW.out.trans (hb'.mono BW.out.size)⟩
      | false =>
        rw [hq] at hc
        have Q := Asd.mk hq
        clear hq
        go_wp2_with fail
        refine hc.mono ?_
        rintro e w' ⟨rfl, hb'⟩
        go_wp2_with fail
        go_roundw
        case measure => simp [intOf]; omega
        case rel =>
          refine ⟨k + 1, by go_num, by omega, ⟨BW.out.trans (hb'.mono BW.out.size)⟩, ⟨fun j hj hjk => ?_⟩⟩
          rcases Nat.lt_or_ge j k with h1 | h1
          · exact I.out j hj h1
          · obtain rfl : j = k := by omega
            rw [Y.out]; exact Q.out
    · go_wp2_with fail
      go_ret
      exact ⟨by rw [fidx_miss p l fun j hj => I.out j hj (by have := N.out; omega)]; rfl, BW.out⟩

/-- table.Do's first look: an operation that may not be. -/
theorem Do1_calls (x : OpR) (hk : x.key.size ≤ 9223372036854775807) (hv : x.val.size ≤ 9223372036854775807) (w : World) :
    Calls Tryz.prog 56 #[.agg x.enc.toArray] w fun e w' => e = .returned (.bool (!opOk x)) ∧ Below w.heap.size w w' := by
  have hc := fun W => Check_calls x hk hv W
  have C := Asd.mk hc
  clear hc
  unfold OpR.enc at *
  cases ho : opOk x with
  | true =>
    have O := Asd.mk ho
    go_enter Tryz.func56, Tryz.ntmps56
    go_wp2_with fail
    refine (C.out _).mono ?_
    rw [O.out]
    rintro e w' ⟨rfl, hb⟩
    go_wp2_with fail
    go_ret
    exact ⟨rfl, (((Below.refl _ _).alloc (Nat.le_refl _) _).trans (hb.mono (by simp)))⟩
  | false =>
    have O := Asd.mk ho
    go_enter Tryz.func56, Tryz.ntmps56
    go_wp2_with fail
    refine (C.out _).mono ?_
    rw [O.out]
    rintro e w' ⟨rfl, hb⟩
    go_wp2_with fail
    go_ret
    exact ⟨rfl, (((Below.refl _ _).alloc (Nat.le_refl _) _).trans (hb.mono (by simp)))⟩

/-- slices.Clone of rows. -/
theorem Clone_row {base : Nat} (w : World) (A : Option Addr) (n c : Nat) (xs : List Value) (hr : Rd base 131 w 3 A n c xs) (h1 : ∀ u ∈ xs, u.oneCell' = true) (hbig : n * 40 ≤ 140737488355328) :
    Calls Tryz.prog 73 #[.slice A n c] w fun e w' => ∃ A' c', e = .returned (.slice A' n c') ∧ Rd base 131 w' 3 A' n c' xs ∧ w'.ownsRow w.heap.size 131 3 (.slice A' n c') n xs ∧ Below w.heap.size w w' := by
  have R := Asd.mk hr
  have O := Asd.mk h1
  have HB := Asd.mk hbig
  clear hbig
  rcases A with _ | a
  · have h0 : c = 0 := hr.nil rfl
    have h2 : n = 0 := by have := hr.cap; omega
    have h3 : xs = [] := List.eq_nil_of_length_eq_zero (by have := hr.len; omega)
    subst h0 h2 h3
    have hnil := fun w => Lib.run_eql_slice_nil (P := Tryz.prog) w 75 131 none 0 0 0 0 Tryz.underlying75
    clear hr h1 R O HB
    go_enter Tryz.func73, Tryz.ntmps73
    go_wp2
    go_ret
    exact ⟨none, 0, rfl, Rd.none_, World.ownsRow_nil _ _ _ _, Below.refl _ _⟩
  · have hnil := fun w => Lib.run_eql_slice_nil (P := Tryz.prog) w 75 131 (some a) n c 0 0 Tryz.underlying75
    clear hr h1
    go_enter Tryz.func73, Tryz.ntmps73
    go_wp2_with (at_builtin; refine wpList_append_mine (base := base) (own := w.heap.size) (v := .slice (some ⟨w.heap.size, 0, none⟩) 0 0) (n := 0) (xs := []) rfl (.tmp 5) (.tmp 6) 75 rfl elt_row rfl rfl (World.ownsRow_made w #[] 0 (Nat.le_refl _) (by simp [maxLen]) (by simp)) (R.out.alloc _) O.out (by have := HB.out; simp only [maxLen]; omega) (by have := HB.out; omega) (by simp) ?_; intro v' w' O1 G1; rw [Nat.zero_add] at O1; rw [List.nil_append] at O1; obtain ⟨A', c', rfl, R1⟩ := Rd.of_own (base := base) O1)
    go_ret
    refine ⟨A', c', rfl, R1, O1, ?_⟩
    exact ((Below.refl _ _).alloc (Nat.le_refl _) _).grown G1 (by simp) (fun k hk => by simp [Value.ownBlock] at hk; subst hk; exact Nat.le_refl _)

theorem row_one (l : List Rw) : ∀ u ∈ rowCells l, u.oneCell' = true := by
  intro u hu
  unfold rowCells at hu
  obtain ⟨r, _, hr⟩ := List.mem_flatMap.1 hu
  simp only [Rw.enc, List.mem_cons, List.not_mem_nil, or_false] at hr
  rcases hr with rfl | rfl | rfl <;> rfl

theorem refused_calls (c s : Int) (w : World) :
    Calls Tryz.prog 76 #[.int .i64 c, .int .i64 s] w fun e w' => e = .returned (.agg #[.int .i64 c, .int .i64 s, .string ⟨#[]⟩, .slice none 0 0]) ∧ Below w.heap.size w w' := by
  go_enter Tryz.func76, Tryz.ntmps76
  go_wp2
  refine bodyPost_ret (v := .agg #[.int .i64 c, .int .i64 s, .string ⟨#[]⟩, .slice none 0 0]) (by simp [results, Tryz.results76, go_sem]) rfl ⟨rfl, (Below.refl _ _).alloc (Nat.le_refl _) _⟩

/-- What a row may be. -/
def rowOk (r : Rw) : Bool := decide (r.key.size ≠ 0) && decide ((r.key.size : Int) ≤ 64) && decide (1 ≤ r.stamp) && decide (r.stamp ≤ 1099511627776) && decide ((r.val.size : Int) ≤ 4096)
end Go.Proofs.YtallnibjmffahaaGreatDoor

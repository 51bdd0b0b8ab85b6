/- The table's leaves: comparing keys, finding a key by halves. -/
import Derived.Test.YtlhjfblpinpjiaaProg
import Derived.Test.YtlhjfblpinpjiaaWd
import Derived.Test.YtlhjfblpinpjiaaKey
import Derived.Deep.LoopGhost
set_option linter.unusedVariables false
set_option linter.unusedSimpArgs false
namespace Go.Proofs.Ytlhjfblpinpjiaa
open Go.RowKit

structure Rw where
  key : ByteArray
  stamp : Int
  val : ByteArray
def Rw.enc (r : Rw) : List Value := [.string r.key, .int .i64 r.stamp, .string r.val]
def rowCells (l : List Rw) : List Value := l.flatMap Rw.enc
instance : Inhabited Rw := ⟨⟨⟨#[]⟩, 0, ⟨#[]⟩⟩⟩

theorem strings_Compare (a b : ByteArray) (w : World) :
    Calls Try.prog 75 #[.string a, .string b] w fun e w' => e = .returned (.int .i64 (Lib.compareBytes a.data.toList b.data.toList)) ∧ w = w' := by
  have h : ∀ W : World, Calls Try.prog 80 #[.string a, .string b] W fun e w' => e = .returned (.int .i64 (Lib.compareBytes a.data.toList b.data.toList)) ∧ W = w' := by
    intro W
    go_enter Try.func80, Try.ntmps80
    go_wp2
    rw [run_callFunc_extern Try.func83 (by kernel_rfl) (by kernel_rfl) (by kernel_rfl) (e := Extern.BytealgCompare.compare) (by kernel_rfl), Lib.run_compareString]
    simp only [Result.andThen]
    rw [Oper.upon_value]
    go_wp2
    go_ret
    exact ⟨rfl, rfl⟩
  go_enter Try.func75, Try.ntmps75
  go_wp2_with (go_at_call 80; refine (h _).mono ?_; rintro e w' ⟨rfl, rfl⟩)
  go_ret
  exact ⟨rfl, rfl⟩

/-- The cells of element i of a slice of rows. -/
theorem Rd.row {base : Nat} {T : TypeId} {w : World} {n c : Nat} {A : Option Addr} {l : List Rw} (h : Rd base T w 3 A n c (rowCells l)) {i : Nat} (hi : i < n) :
    ∃ b off, A = some ⟨b, off, none⟩ ∧ b < w.heap.size ∧ ∃ hl : i < l.length, w.cell? ⟨b, off + i * 3, none⟩ = some (.string l[i].key) ∧ w.cell? ⟨b, off + i * 3 + 1, none⟩ = some (.int .i64 l[i].stamp) ∧ w.cell? ⟨b, off + i * 3 + 2, none⟩ = some (.string l[i].val) := by
  have hlen : l.length = n := h.count (fun _ => rfl) (by omega)
  obtain ⟨b, off, e, hb, hc⟩ := h.elem hi
  have hil : i < l.length := by omega
  have hget := fun j hj => flat_get Rw.enc 3 (fun _ => rfl) l i j hil hj
  refine ⟨b, off, e, hb, hil, ?_, ?_, ?_⟩
  · have := hc 0 (by omega)
    rw [show (rowCells l)[i * 3 + 0]? = _ from hget 0 (by omega)] at this
    simpa [Rw.enc] using this
  · have := hc 1 (by omega)
    rw [show (rowCells l)[i * 3 + 1]? = _ from hget 1 (by omega)] at this
    simpa [Rw.enc] using this
  · have := hc 2 (by omega)
    rw [show (rowCells l)[i * 3 + 2]? = _ from hget 2 (by omega)] at this
    simpa [Rw.enc] using this

/-- How many keys lie before x: where x stands, or would stand. -/
def pos (x : ByteArray) (l : List Rw) : Nat := l.countP fun r => decide (klt r.key x)
def there (x : ByteArray) (l : List Rw) : Bool := l.any fun r => decide (r.key = x)
def Sorted (l : List Rw) : Prop := l.Pairwise fun a b => klt a.key b.key

theorem countP_at {α : Type} (p : α → Bool) : ∀ (l : List α) (i : Nat), i ≤ l.length → (∀ t (h : t < l.length), t < i → p l[t] = true) → (∀ t (h : t < l.length), i ≤ t → p l[t] = false) → l.countP p = i
  | [], i, hi, _, _ => by simp at hi; simp [hi]
  | a :: r, 0, _, _, h2 => by
    rw [List.countP_eq_zero]
    intro x hx
    obtain ⟨t, ht, rfl⟩ := List.getElem_of_mem hx
    have := h2 t ht (Nat.zero_le _)
    simp [this]
  | a :: r, i + 1, hi, h1, h2 => by
    have ha : p a = true := h1 0 (by simp) (Nat.succ_pos _)
    rw [List.countP_cons_of_pos ha, countP_at p r i (by simpa using hi) (fun t h ht => h1 (t + 1) (by simpa using h) (by omega)) (fun t h h3 => h2 (t + 1) (by simpa using h) (by omega))]

theorem wrap_pos {n : Nat} (h : n ≤ 140737488355328) {a : Nat} (ha : a ≤ n) : IntKind.i64.wrap (a : Int) = a := IntWalk.i64_in _ (by omega)

set_option maxHeartbeats 1000000 in
/-- slices.BinarySearchFunc over rows, by a comparison with a key. -/
theorem bsearch {base : Nat} {T : TypeId} (g : Nat) (eg : ∀ args w, (callFunc g args).run Try.prog w = .ok (.enter g args) w) (x : ByteArray) (w : World)
    (hcmp : ∀ (W : World) (r : Rw), Calls Try.prog g #[.agg r.enc.toArray, .string x] W fun e w' => e = .returned (.int .i64 (Lib.compareBytes r.key.data.toList x.data.toList)) ∧ Below W.heap.size W w')
    (A : Option Addr) (n c : Nat) (l : List Rw) (hr : Rd base T w 3 A n c (rowCells l)) (hn : l.length = n) (hbig : n ≤ 140737488355328) (hs : Sorted l) :
    Calls Try.prog 73 #[.slice A n c, .string x, .func (.func g) #[] #[]] w fun e w' =>
      e = .returned (.tuple #[.int .i64 (pos x l), .bool (there x l)]) ∧ Below w.heap.size w w' := by
  have hfin : ∀ i, i ≤ n → (∀ t (h : t < l.length), t < i → klt l[t].key x) → (∀ t (h : t < l.length), i ≤ t → ¬ klt l[t].key x) → pos x l = i := fun i hi h1 h2 =>
    countP_at _ l i (by omega) (fun t h ht => decide_eq_true (h1 t h ht)) (fun t h ht => decide_eq_false (h2 t h ht))
  have hth : ∀ i (hi : i < l.length), (∀ t (h : t < l.length), t < i → klt l[t].key x) → ¬ klt l[i].key x → (there x l = true ↔ l[i].key = x) := by
    intro i hi h1 h2
    unfold there
    rw [List.any_eq_true]
    constructor
    · rintro ⟨r, hr, e⟩
      have e : r.key = x := of_decide_eq_true e
      obtain ⟨t, ht, rfl⟩ := List.getElem_of_mem hr
      rcases Nat.lt_trichotomy t i with h | h | h
      · exact absurd e (klt_ne (h1 t ht h))
      · subst h; exact e
      · have := List.pairwise_iff_getElem.1 hs i t hi ht h
        rw [e] at this
        exact absurd this h2
    · intro e
      exact ⟨_, List.getElem_mem hi, decide_eq_true e⟩
  have hth0 : (∀ t (h : t < l.length), klt l[t].key x) → there x l = false := by
    intro h1
    unfold there
    rw [List.any_eq_false]
    intro r hr
    obtain ⟨t, ht, rfl⟩ := List.getElem_of_mem hr
    simpa using klt_ne (h1 t ht)
  have FIN := Asd.mk hfin
  have TH := Asd.mk hth
  have TH0 := Asd.mk hth0
  have SR := Asd.mk hs
  have R := Asd.mk hr
  have C := Asd.mk hcmp
  have HN := Asd.mk hn
  clear hfin hth hth0 hs hr hcmp
  go_enter Try.func73, Try.ntmps73
  go_wp2
  go_loopw [9, 10] (fun s9 s10 wr => ∃ lo hi : Nat, s9 = .int .i64 lo ∧ s10 = .int .i64 hi ∧ lo ≤ hi ∧ hi ≤ n ∧ Asd (Below w.heap.size w wr) ∧
      Asd (∀ t (h : t < l.length), t < lo → klt l[t].key x) ∧ Asd (∀ t (h : t < l.length), hi ≤ t → ¬ klt l[t].key x)) (fun s9 s10 _ => (intOf s10 - intOf s9).toNat)
  case atStart => exact ⟨0, n, rfl, rfl, Nat.zero_le _, Nat.le_refl _, ⟨Below.refl _ _⟩, ⟨fun t _ ht => absurd ht (Nat.not_lt_zero _)⟩, ⟨fun t h ht => by omega⟩⟩
  case round =>
    obtain ⟨lo, hi, rfl, rfl, hlh, hin, BW, I1, I2⟩ := hrel
    by_cases hlt : lo < hi
    · obtain ⟨b, off, rfl, hb, hil, c0, c1, c2⟩ := (R.out.below BW.out).row (i := (lo + hi) / 2) (by omega)
      generalize hy : l[(lo + hi) / 2] = y at c0 c1 c2
      have hc := C.out wr y
      unfold Rw.enc at hc
      by_cases hyx : klt y.key x
      · have hneg : Lib.compareBytes y.key.data.toList x.data.toList < 0 := (cmp_lt _ _).2 hyx
        have Y := Asd.mk hy
        have YX := Asd.mk hyx
        clear hy hyx
        go_wp2_with fail
        refine hc.mono ?_
        rintro e w' ⟨rfl, hb'⟩
        go_wp2_with fail
        go_roundw
        case measure => simp [intOf]; omega
        case rel =>
          refine ⟨(lo + hi) / 2 + 1, hi, by go_num, rfl, by omega, hin, ⟨BW.out.trans (hb'.mono BW.out.size)⟩, ⟨fun t h ht => ?_⟩, I2⟩
          rcases Nat.lt_or_ge t ((lo + hi) / 2) with h1 | h1
          · exact klt_trans (List.pairwise_iff_getElem.1 SR.out t _ h hil h1) (by rw [Y.out]; exact YX.out)
          · obtain rfl : t = (lo + hi) / 2 := by omega
            rw [Y.out]; exact YX.out
      · have hneg : ¬ Lib.compareBytes y.key.data.toList x.data.toList < 0 := fun h => hyx ((cmp_lt _ _).1 h)
        have Y := Asd.mk hy
        have YX := Asd.mk hyx
        clear hy hyx
        go_wp2_with fail
        refine hc.mono ?_
        rintro e w' ⟨rfl, hb'⟩
        go_wp2_with fail
        go_roundw
        case measure => simp [intOf]; omega
        case rel =>
          refine ⟨lo, (lo + hi) / 2, rfl, by go_num, by omega, by omega, ⟨BW.out.trans (hb'.mono BW.out.size)⟩, I1, ⟨fun t h ht => ?_⟩⟩
          rcases Nat.lt_or_ge ((lo + hi) / 2) t with h1 | h1
          · intro h2
            exact YX.out (by rw [← Y.out]; exact klt_trans (List.pairwise_iff_getElem.1 SR.out _ t hil h h1) h2)
          · obtain rfl : t = (lo + hi) / 2 := by omega
            rw [Y.out]; exact YX.out
    · obtain rfl : hi = lo := by omega
      have hpos := FIN.out hi hin I1.out I2.out
      have P := Asd.mk hpos
      clear hpos
      by_cases hlast : hi < n
      · obtain ⟨b, off, rfl, hb, hil, c0, c1, c2⟩ := (R.out.below BW.out).row (i := hi) hlast
        have hth := TH.out hi hil I1.out (I2.out hi hil (Nat.le_refl _))
        generalize hy : l[hi] = y at c0 c1 c2 hth
        have hc := C.out wr y
        unfold Rw.enc at hc
        have TT := Asd.mk hth
        clear hth hy
        by_cases hyx : y.key = x
        · have hz : Lib.compareBytes y.key.data.toList x.data.toList = 0 := (cmp_zero _ _).2 hyx
          rw [hz] at hc
          have YX := Asd.mk hyx
          clear hyx hz
          go_wp2_with fail
          refine hc.mono ?_
          rintro e w' ⟨rfl, hb'⟩
          go_wp2_with fail
          go_ret2
          exact ⟨by rw [P.out, TT.out.2 YX.out]; rfl, BW.out.trans (hb'.mono BW.out.size)⟩
        · have hz : (Lib.compareBytes y.key.data.toList x.data.toList == 0) = false := by rw [beq_eq_false_iff_ne]; exact fun h => hyx ((cmp_zero _ _).1 h)
          have hf : there x l = false := by
            cases h : there x l
            · rfl
            · exact absurd (TT.out.1 h) hyx
          have HF := Asd.mk hf
          clear hyx hf
          go_wp2_with fail
          refine hc.mono ?_
          rintro e w' ⟨rfl, hb'⟩
          go_wp2_with fail
          go_ret2
          exact ⟨by rw [P.out, HF.out]; rfl, BW.out.trans (hb'.mono BW.out.size)⟩
      · have hf := TH0.out fun t h => I1.out t h (by omega)
        have HF := Asd.mk hf
        clear hf
        go_wp2_with fail
        go_ret2
        exact ⟨by rw [P.out, HF.out]; rfl, BW.out⟩

end Go.Proofs.Ytlhjfblpinpjiaa

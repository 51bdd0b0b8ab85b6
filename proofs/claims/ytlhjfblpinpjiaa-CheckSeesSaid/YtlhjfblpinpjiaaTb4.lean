/- The library's functions over rows and operations; what a row may be. -/
import Derived.Test.YtlhjfblpinpjiaaTb2
import Derived.Test.YtlhjfblpinpjiaaTb3
import Derived.WalkSpells
set_option linter.unusedVariables false
set_option linter.unusedSimpArgs false
namespace Go.Proofs.Ytlhjfblpinpjiaa
open Go.RowKit

theorem tl_nil (a : ByteArray) : (a.toList = []) = (a.size = 0) := by
  rw [toList_eq]
  apply propext
  constructor
  · intro h
    have : a.data.toList.length = a.size := by simp
    rw [h] at this
    exact this.symm
  · intro h; rw [size_zero h]

/-- The cells of element i of a slice of structs. -/
theorem Rd.at_enc {base : Nat} {T : TypeId} {w : World} {α : Type} {enc : α → List Value} {k n c : Nat} {A : Option Addr} {l : List α} (h : Rd base T w k A n c (l.flatMap enc)) (hk : ∀ x, (enc x).length = k) (h0 : 0 < k) {i : Nat} (hi : i < n) :
    ∃ b off, A = some ⟨b, off, none⟩ ∧ b < w.heap.size ∧ ∃ hl : i < l.length, ∀ j v, (enc l[i])[j]? = some v → w.cell? ⟨b, off + i * k + j, none⟩ = some v := by
  have hlen := h.count hk h0
  obtain ⟨b, off, e, hb, hc⟩ := h.elem hi
  have hil : i < l.length := by omega
  refine ⟨b, off, e, hb, hil, fun j v hj => ?_⟩
  have hjk : j < k := by
    have := (List.getElem?_eq_some_iff.1 hj).1
    rw [hk] at this
    exact this
  rw [hc j hjk, flat_get enc k hk l i j hil hjk]
  exact hj
/-- Loading element i whole. -/
theorem Rd.load {base : Nat} {T : TypeId} {w : World} {α : Type} {enc : α → List Value} {k n c : Nat} {A : Option Addr} {l : List α} (h : Rd base T w k A n c (l.flatMap enc)) (hk : ∀ x, (enc x).length = k) (h0 : 0 < k) {i : Nat} (hi : i < n) (P : Program) :
    ∃ b off, A = some ⟨b, off, none⟩ ∧ b < w.heap.size ∧ ∃ hl : i < l.length, Sem.run P (loadCellsFrom ⟨b, off + i * k, none⟩ 0 k #[]) w = .ok (enc l[i]).toArray w := by
  obtain ⟨b, off, e, hb, hl, hc⟩ := h.at_enc hk h0 hi
  exact ⟨b, off, e, hb, hl, run_load_list P w _ _ k (hk _) fun j v hj => by rw [add_lit']; exact hc j v hj⟩

def opCells (l : List OpR) : List Value := l.flatMap OpR.enc
/-- The place of the first that p holds of; -1. -/
def fidx {α : Type} (p : α → Bool) (l : List α) : Int := if l.any p then (l.findIdx p : Nat) else -1
theorem fidx_hit {α : Type} (p : α → Bool) (l : List α) (i : Nat) (hi : i < l.length) (h : p l[i] = true) (hb : ∀ j (hj : j < l.length), j < i → p l[j] = false) : fidx p l = i := by
  have h1 : l.any p = true := List.any_eq_true.2 ⟨_, List.getElem_mem hi, h⟩
  unfold fidx
  rw [if_pos h1]
  have : l.findIdx p = i := by
    rw [List.findIdx_eq hi]
    exact ⟨h, fun j hj => hb j (by omega) hj⟩
  rw [this]
theorem fidx_miss {α : Type} (p : α → Bool) (l : List α) (h : ∀ j (hj : j < l.length), p l[j] = false) : fidx p l = -1 := by
  have h1 : l.any p = false := by
    rw [List.any_eq_false]
    intro x hx
    obtain ⟨t, ht, rfl⟩ := List.getElem_of_mem hx
    rw [h t ht]
    simp
  unfold fidx
  rw [h1]
  rfl

set_option maxHeartbeats 1000000 in
/-- slices.IndexFunc over operations. -/
theorem IndexFunc_op {base : Nat} {T : TypeId} (p : OpR → Bool) (g : Nat) (eg : ∀ args w, (callFunc g args).run Try.prog w = .ok (.enter g args) w) (w : World)
    (A : Option Addr) (n c : Nat) (l : List OpR) (hr : Rd base T w 6 A n c (opCells l)) (hbig : n ≤ 140737488355328)
    (hp : ∀ (W : World) (x : OpR), x ∈ l → Calls Try.prog g #[.agg x.enc.toArray] W fun e w' => e = .returned (.bool (p x)) ∧ Below W.heap.size W w') :
    Calls Try.prog 39 #[.slice A n c, .func (.func g) #[] #[]] w fun e w' => e = .returned (.int .i64 (fidx p l)) ∧ Below w.heap.size w w' := by
  have hn := hr.count (enc := OpR.enc) (fun _ => rfl) (by omega)
  have R := Asd.mk hr
  have C := Asd.mk hp
  have N := Asd.mk hn
  clear hr hp hn
  go_enter Try.func39, Try.ntmps39
  go_wp2
  go_loopw [5, 8] (fun _ s8 wr => ∃ k : Nat, s8 = .int .i64 k ∧ k ≤ n ∧ Asd (Below w.heap.size w wr) ∧ Asd (∀ j (hj : j < l.length), j < k → p l[j] = false)) (fun _ s8 _ => n - (intOf s8).toNat)
  case atStart => exact ⟨0, rfl, Nat.zero_le _, ⟨Below.refl _ _⟩, ⟨fun j _ h => absurd h (Nat.not_lt_zero _)⟩⟩
  case round =>
    obtain ⟨k, rfl, hkn, BW, I⟩ := hrel
    by_cases hlt : k < n
    · obtain ⟨b, off, rfl, hb, hl, hcs⟩ := (R.out.below BW.out).at_enc (enc := OpR.enc) (fun _ => rfl) (by omega) hlt
      have hc := C.out wr l[k] (List.getElem_mem hl)
      generalize hy : l[k] = y at hcs hc
      have c0 := hcs 0 _ rfl
      have c1 := hcs 1 _ rfl
      have c2 := hcs 2 _ rfl
      have c3 := hcs 3 _ rfl
      have c4 := hcs 4 _ rfl
      have c5 := hcs 5 _ rfl
      rw [Nat.add_zero] at c0
      unfold OpR.enc at hc
      clear hcs
      have Y := Asd.mk hy
      clear hy
      cases hq : p y with
      | true =>
        rw [hq] at hc
        have Q := Asd.mk hq
        clear hq
        go_wp2_with fail
        refine hc.mono ?_
        rintro e w' ⟨rfl, hb'⟩
        go_wp2_with fail
        go_ret
        exact ⟨by rw [fidx_hit p l k hl (by rw [Y.out]; exact Q.out) I.out]; rfl, BW.out.trans (hb'.mono BW.out.size)⟩
      | false =>
        rw [hq] at hc
        have Q := Asd.mk hq
        clear hq
        go_wp2_with fail
        refine hc.mono ?_
        rintro e w' ⟨rfl, hb'⟩
        go_wp2_with fail
        go_roundw
        case measure => simp [intOf]; omega
        case rel =>
          refine ⟨k + 1, by go_num, by omega, ⟨BW.out.trans (hb'.mono BW.out.size)⟩, ⟨fun j hj hjk => ?_⟩⟩
          rcases Nat.lt_or_ge j k with h1 | h1
          · exact I.out j hj h1
          · obtain rfl : j = k := by omega
            rw [Y.out]; exact Q.out
    · go_wp2_with fail
      go_ret
      exact ⟨by rw [fidx_miss p l fun j hj => I.out j hj (by have := N.out; omega)]; rfl, BW.out⟩

/-- table.Do's first look: an operation that may not be. -/
theorem Do1_calls (x : OpR) (hk : x.key.size ≤ 9223372036854775807) (hv : x.val.size ≤ 9223372036854775807) (w : World) :
    Calls Try.prog 40 #[.agg x.enc.toArray] w fun e w' => e = .returned (.bool (!opOk x)) ∧ Below w.heap.size w w' := by
  have hc := fun W => Check_calls x hk hv W
  have C := Asd.mk hc
  clear hc
  unfold OpR.enc at *
  cases ho : opOk x with
  | true =>
    have O := Asd.mk ho
    go_enter Try.func40, Try.ntmps40
    go_wp2_with fail
    refine (C.out _).mono ?_
    rw [O.out]
    rintro e w' ⟨rfl, hb⟩
    go_wp2_with fail
    go_ret
    exact ⟨rfl, (((Below.refl _ _).alloc (Nat.le_refl _) _).trans (hb.mono (by simp)))⟩
  | false =>
    have O := Asd.mk ho
    go_enter Try.func40, Try.ntmps40
    go_wp2_with fail
    refine (C.out _).mono ?_
    rw [O.out]
    rintro e w' ⟨rfl, hb⟩
    go_wp2_with fail
    go_ret
    exact ⟨rfl, (((Below.refl _ _).alloc (Nat.le_refl _) _).trans (hb.mono (by simp)))⟩

/-- slices.Clone of rows. -/
theorem Clone_row {base : Nat} (w : World) (A : Option Addr) (n c : Nat) (xs : List Value) (hr : Rd base 86 w 3 A n c xs) (h1 : ∀ u ∈ xs, u.oneCell' = true) (hbig : n * 40 ≤ 140737488355328) :
    Calls Try.prog 45 #[.slice A n c] w fun e w' => ∃ A' c', e = .returned (.slice A' n c') ∧ Rd base 86 w' 3 A' n c' xs ∧ w'.ownsRow w.heap.size 86 3 (.slice A' n c') n xs ∧ Below w.heap.size w w' := by
  have R := Asd.mk hr
  have O := Asd.mk h1
  have HB := Asd.mk hbig
  clear hbig
  rcases A with _ | a
  · have h0 : c = 0 := hr.nil rfl
    have h2 : n = 0 := by have := hr.cap; omega
    have h3 : xs = [] := List.eq_nil_of_length_eq_zero (by have := hr.len; omega)
    subst h0 h2 h3
    have hnil := fun w => Lib.run_eql_slice_nil (P := Try.prog) w 45 86 none 0 0 0 0 Try.underlying45
    clear hr h1 R O HB
    go_enter Try.func45, Try.ntmps45
    go_wp2
    go_ret
    exact ⟨none, 0, rfl, Rd.none_, World.ownsRow_nil _ _ _ _, Below.refl _ _⟩
  · have hnil := fun w => Lib.run_eql_slice_nil (P := Try.prog) w 45 86 (some a) n c 0 0 Try.underlying45
    clear hr h1
    go_enter Try.func45, Try.ntmps45
    go_wp2_with (at_builtin; refine wpList_append_mine (base := base) (own := w.heap.size) (v := .slice (some ⟨w.heap.size, 0, none⟩) 0 0) (n := 0) (xs := []) rfl (.tmp 5) (.tmp 6) 45 rfl elt_row rfl rfl (World.ownsRow_made w #[] 0 (Nat.le_refl _) (by simp [maxLen]) (by simp)) (R.out.alloc _) O.out (by have := HB.out; simp only [maxLen]; omega) (by have := HB.out; omega) (by simp) ?_; intro v' w' O1 G1; rw [Nat.zero_add] at O1; rw [List.nil_append] at O1; obtain ⟨A', c', rfl, R1⟩ := Rd.of_own (base := base) O1)
    go_ret
    refine ⟨A', c', rfl, R1, O1, ?_⟩
    exact ((Below.refl _ _).alloc (Nat.le_refl _) _).grown G1 (by simp) (fun k hk => by simp [Value.ownBlock] at hk; subst hk; exact Nat.le_refl _)

theorem row_one (l : List Rw) : ∀ u ∈ rowCells l, u.oneCell' = true := by
  intro u hu
  unfold rowCells at hu
  obtain ⟨r, _, hr⟩ := List.mem_flatMap.1 hu
  simp only [Rw.enc, List.mem_cons, List.not_mem_nil, or_false] at hr
  rcases hr with rfl | rfl | rfl <;> rfl

theorem refused_calls (c s : Int) (w : World) :
    Calls Try.prog 62 #[.int .i64 c, .int .i64 s] w fun e w' => e = .returned (.agg #[.int .i64 c, .int .i64 s, .string ⟨#[]⟩, .slice none 0 0]) ∧ Below w.heap.size w w' := by
  go_enter Try.func62, Try.ntmps62
  go_wp2
  refine bodyPost_ret (v := .agg #[.int .i64 c, .int .i64 s, .string ⟨#[]⟩, .slice none 0 0]) (by simp [results, Try.results62, go_sem]) rfl ⟨rfl, (Below.refl _ _).alloc (Nat.le_refl _) _⟩

/-- What a row may be. -/
def rowOk (r : Rw) : Bool := decide (r.key.size ≠ 0) && decide ((r.key.size : Int) ≤ 64) && decide (1 ≤ r.stamp) && decide (r.stamp ≤ 1099511627776) && decide ((r.val.size : Int) ≤ 4096)
end Go.Proofs.Ytlhjfblpinpjiaa

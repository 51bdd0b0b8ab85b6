/- slices.DeleteFunc over own rows, by a closure that captures. -/
import Derived.Test.YtgiajfgeplekbaaH6
import Derived.Test.YtgiajfgeplekbaaH7
import Derived.Test.YtgiajfgeplekbaaH8
set_option linter.unusedVariables false
set_option linter.unusedSimpArgs false
namespace Go.Proofs.Ytgiajfgeplekbaa
open Go.RowKit

theorem zrow_len (m : Nat) : (Builtin.zeroCells #[.string ⟨#[]⟩, .int .i64 0, .string ⟨#[]⟩] m).toList.length = m * 3 := by simp [Builtin.zeroCells]
theorem zrow_one (m : Nat) : ∀ v ∈ (Builtin.zeroCells #[.string ⟨#[]⟩, .int .i64 0, .string ⟨#[]⟩] m).toList, v.oneCell' = true := by
  intro v hv
  simp only [Builtin.zeroCells, Array.toList_map, List.mem_map] at hv
  obtain ⟨i, _, rfl⟩ := hv
  have h3 : i % 3 = 0 ∨ i % 3 = 1 ∨ i % 3 = 2 := by omega
  show (#[Value.string ⟨#[]⟩, .int .i64 0, .string ⟨#[]⟩][i % 3]!).oneCell' = true
  rcases h3 with h | h | h <;> rw [h] <;> rfl
theorem zero_row (w : World) : (zeroValue 29).run Try.prog w = .ok (.agg #[.string ⟨#[]⟩, .int .i64 0, .string ⟨#[]⟩]) w := by kernel_rfl

theorem below_setc {B : Nat} {a : World} (b : Nat) (hb : B ≤ b) : ∀ (vs : List Value) (o : Nat) {w : World}, Below B a w → Below B a (w.setCells b o vs)
  | [], _, _, h => h
  | v :: r, o, _, h => below_setc b hb r (o + 1) (h.setCell (p := ⟨b, o, none⟩) hb v)
theorem ist_setc {j : Nat} {U : TypeId} (b : Nat) : ∀ (vs : List Value) (o : Nat) {w : World}, IsT w j U → IsT (w.setCells b o vs) j U
  | [], _, _, h => h
  | v :: r, o, _, h => ist_setc b r (o + 1) (h.set ⟨b, o, none⟩ v)

/-- What the loop keeps: i rows are kept, j rows are looked at. -/
structure DelI (p : Rw → Bool) (l L : List Rw) (i j : Nat) : Prop where
  len : L.length = l.length
  done : L.take i = (l.take j).filter (fun r => !p r)
  rest : L.drop j = l.drop j
theorem DelI.get {p : Rw → Bool} {l L : List Rw} {i j : Nat} (h : DelI p l L i j) (hj : j < L.length) (hl : j < l.length) : L[j] = l[j] := by
  have h1 : (L.drop j)[0]? = (l.drop j)[0]? := by rw [h.rest]
  rw [List.getElem?_drop, List.getElem?_drop, Nat.add_zero, List.getElem?_eq_getElem hj, List.getElem?_eq_getElem hl] at h1
  injection h1
theorem DelI.skip {p : Rw → Bool} {l L : List Rw} {i j : Nat} (h : DelI p l L i j) (hl : j < l.length) (hp : p l[j] = true) : DelI p l L i (j + 1) := by
  refine ⟨h.len, ?_, ?_⟩
  · rw [List.take_succ_eq_append_getElem hl, List.filter_append, h.done]
    simp [hp]
  · rw [← List.drop_drop, h.rest, List.drop_drop]
theorem DelI.keep_ {p : Rw → Bool} {l L : List Rw} {i j : Nat} (h : DelI p l L i j) (hij : i < j) (hl : j < l.length) (hp : p l[j] = false) : DelI p l (L.set i l[j]) (i + 1) (j + 1) := by
  have hi : i < (L.set i l[j]).length := by rw [List.length_set, h.len]; omega
  refine ⟨by rw [List.length_set, h.len], ?_, ?_⟩
  · rw [List.take_succ_eq_append_getElem hi, List.take_succ_eq_append_getElem hl, List.filter_append, ← h.done, List.getElem_set_self, List.take_set, List.set_eq_of_length_le (by rw [List.length_take]; omega)]
    simp [hp]
  · rw [List.drop_set, if_pos (by omega), ← List.drop_drop, h.rest, List.drop_drop]
theorem DelI.all {p : Rw → Bool} {l L : List Rw} {i : Nat} (h : DelI p l L i l.length) : L.take i = l.filter (fun r => !p r) := by
  rw [h.done, List.take_of_length_le (Nat.le_refl _)]
theorem DelI.start (p : Rw → Bool) (l : List Rw) (i : Nat) (hi : i < l.length) (hp : p l[i] = true) (hb : ∀ j (hj : j < l.length), j < i → p l[j] = false) : DelI p l l i (i + 1) := by
  refine ⟨rfl, ?_, rfl⟩
  rw [List.take_succ_eq_append_getElem hi, List.filter_append]
  have : (l.take i).filter (fun r => !p r) = l.take i := by
    rw [List.filter_eq_self]
    intro a ha
    obtain ⟨k, hk, rfl⟩ := List.mem_take_iff_getElem.1 ha
    rw [hb k (by omega) (by omega)]
    rfl
  rw [this]
  simp [hp]
theorem fidx_cases {α : Type} (p : α → Bool) (l : List α) : (fidx p l = -1 ∧ ∀ r ∈ l, p r = false) ∨ ∃ (i : Nat) (hi : i < l.length), fidx p l = i ∧ p l[i] = true ∧ ∀ j (hj : j < l.length), j < i → p l[j] = false := by
  by_cases h : l.any p = true
  · have hi : l.findIdx p < l.length := List.findIdx_lt_length.2 (by simpa using h)
    refine .inr ⟨l.findIdx p, hi, ?_, List.findIdx_getElem, fun j _ hj => by simpa using List.not_of_lt_findIdx hj⟩
    unfold fidx
    rw [if_pos h]
  · refine .inl ⟨?_, ?_⟩
    · unfold fidx
      rw [if_neg h]
    · simpa using h
def DelPost (base b : Nat) (w : World) (l : List Rw) (e : Ending) (w' : World) : Prop :=
  ∃ (A : Option Addr) (n c : Nat), e = .returned (.slice A n c) ∧ Below b w w' ∧ Rd base 29 w' 3 A n c (rowCells l)

set_option maxHeartbeats 4000000 in
theorem DeleteFunc_calls {base b : Nat} (p : Rw → Bool) (fn : Nat) (cb : Array Value) (eg : ∀ args w, (callFunc fn args).run Try.prog w = .ok (.enter fn args) w) {w : World}
    {A : Option Addr} {n c : Nat} {l : List Rw} (ho : w.ownsRow b 29 3 (.slice A n c) n (rowCells l)) (hb : b ≤ w.heap.size) (hbig : n ≤ 1000000)
    (hp : ∀ (W : World), Below b w W → ∀ (x : Rw), x ∈ l → Calls Try.prog fn (#[.agg x.enc.toArray] ++ cb) W fun e w' => e = .returned (.bool (p x)) ∧ Below W.heap.size W w') :
    Calls Try.prog 40 #[.slice A n c, .func (.func fn) #[] cb] w (DelPost base b w (l.filter fun r => !p r)) := by
  obtain ⟨_, _, hs, hr⟩ := Rd.of_own (base := base) ho
  injection hs with hs1 _ hs2
  subst hs1 hs2
  have hn := hr.count (enc := Rw.enc) (fun _ => rfl) (by omega)
  have hidx := IndexFunc_rowC p fn cb eg w A n c l hr (by omega) (fun W hW x hx => hp W ⟨hW.os, hW.tape, hW.output, hW.size, fun k hk => hW.block k (by omega)⟩ x hx)
  have R := Asd.mk hr
  have O := Asd.mk ho
  have C := Asd.mk hp
  have N := Asd.mk hn
  have HB := Asd.mk hb
  have IX := Asd.mk hidx
  have FC := Asd.mk (fidx_cases p l)
  clear hr hp hn ho hb hidx
  go_enter Try.func40, Try.ntmps40
  go_wp2_with fail
  refine IX.out.mono ?_
  clear IX
  rintro e w1 ⟨rfl, hb1⟩
  have B1 := Asd.mk (⟨hb1.os, hb1.tape, hb1.output, hb1.size, fun k hk => hb1.block k (Nat.lt_of_lt_of_le hk HB.out)⟩ : Below b w w1)
  have O1 := Asd.mk (O.out.kept (gb_below hb1 none) (by cases (Value.slice A n c).ownBlock <;> simp))
  have R1 := Asd.mk (R.out.below hb1)
  clear hb1 O R
  rcases FC.out with ⟨hm, hall⟩ | ⟨i0, hi0, hm, hp0, hbef⟩
  · rw [hm]
    have FA : Asd (l.filter (fun r => !p r) = l) := ⟨List.filter_eq_self.2 fun r hr => by rw [hall r hr]; rfl⟩
    clear hm hall FC
    go_wp2_with fail
    go_ret
    exact ⟨A, n, c, rfl, B1.out, by rw [FA.out]; exact R1.out⟩
  · rw [hm]
    have ST := Asd.mk (DelI.start p l i0 hi0 hp0 hbef)
    have hin : i0 < n := by have := N.out; omega
    have hne : ((i0 : Int) == -1) = false := by rw [beq_eq_false_iff_ne]; omega
    clear hm hp0 hbef FC hi0
    go_wp2_with fail
    clear hne
    rcases A with _ | a
    · exact absurd (R1.out.nil rfl) (by have := R1.out.cap; omega)
    · obtain ⟨g, rfl, hgb⟩ : ∃ g, a = ⟨g, 0, none⟩ ∧ b ≤ g := by
        rcases O1.out.2 with ⟨h1, _⟩ | ⟨g, cap, cur, hv, hgb, _⟩
        · cases h1
        · injection hv with hv _ _
          injection hv with hv
          exact ⟨g, hv, hgb⟩
      have hnc : n ≤ c := R1.out.cap
      clear R1
      go_loopw [5, 6] (fun s5 s6 wr => ∃ (i j : Nat) (L : List Rw), s5 = .int .i64 i ∧ s6 = .int .i64 j ∧ i < j ∧ j ≤ n ∧ Asd (Below b w wr) ∧ Asd (wr.ownsRow b 29 3 (.slice (some ⟨g, 0, none⟩) n c) n (rowCells L)) ∧ Asd (DelI p l L i j)) (fun _ s6 _ => n - (intOf s6).toNat)
      case atStart => exact ⟨i0, i0 + 1, l, rfl, by go_num, by omega, by omega, B1, O1, ST⟩
      case round =>
        clear B1 O1 ST
        obtain ⟨i, j, L, rfl, rfl, hij, hjn, BW, OW, DI⟩ := hrel
        by_cases hlt : j < n
        · obtain ⟨_, _, hs, hr⟩ := Rd.of_own (base := base) OW.out
          injection hs with hs1 _ hs2
          subst hs1 hs2
          obtain ⟨b', off, he, _, hil, c0, c1, c2⟩ := hr.row hlt
          injection he with he
          injection he with he1 he2 _
          subst he1 he2
          clear hr
          have hcap : j < c := by omega
          have hlj : j < l.length := by have := N.out; omega
          have hget := DI.out.get hil hlj
          rw [hget] at c0 c1 c2
          rw [Nat.zero_add] at c0 c1 c2
          have hmem : l[j] ∈ l := List.getElem_mem hlj
          have hsk := DI.out.skip hlj
          have hke := DI.out.keep_ hij hlj
          clear hget
          generalize l[j] = y at c0 c1 c2 hmem hsk hke
          have hal : Below wr.heap.size wr (wr.alloc (.cells #[.string y.key, .int .i64 y.stamp, .string y.val] 29)) := (Below.refl _ _).alloc (Nat.le_refl _) _
          have B2 := Asd.mk (BW.out.trans (⟨hal.os, hal.tape, hal.output, hal.size, fun k hk => hal.block k (Nat.lt_of_lt_of_le hk (Nat.le_trans HB.out BW.out.size))⟩ : Below b wr _))
          have O2 := Asd.mk (OW.out.alloc (.cells #[.string y.key, .int .i64 y.stamp, .string y.val] 29))
          have X2 : Asd (Rd base 29 (wr.alloc (.cells #[.string y.key, .int .i64 y.stamp, .string y.val] 29)) 3 (some ⟨wr.heap.size, 0, none⟩) 1 1 (rowCells [y])) := ⟨Rd.new_ rfl rfl⟩
          have hcl := C.out _ B2.out y hmem
          unfold Rw.enc at hcl
          have CL := Asd.mk hcl
          have SK := Asd.mk hsk
          have KE := Asd.mk hke
          obtain ⟨d0, d1, d2⟩ := X2.out.row1
          clear hcl hsk hke hal OW BW DI hmem
          go_wp2_with fail
          clear c0 c1 c2
          generalize (wr.alloc (.cells #[.string y.key, .int .i64 y.stamp, .string y.val] 29)) = w2 at *
          refine CL.out.mono ?_
          rintro e w3 ⟨rfl, hb3⟩
          have B3 := Asd.mk (B2.out.trans (⟨hb3.os, hb3.tape, hb3.output, hb3.size, fun k hk => hb3.block k (Nat.lt_of_lt_of_le hk (Nat.le_trans HB.out B2.out.size))⟩ : Below b w2 w3))
          have O3 := Asd.mk (O2.out.kept (gb_below hb3 none) (by cases (Value.slice (some ⟨g, 0, none⟩) n c).ownBlock <;> simp))
          have X3 := Asd.mk (X2.out.below hb3)
          clear d0 d1 d2 hb3 B2 O2 X2 CL
          obtain ⟨d0, d1, d2⟩ := X3.out.row1
          cases hq : p y with
          | true =>
            have SK2 := Asd.mk (SK.out hq)
            clear hq SK KE
            go_wp2_with fail
            go_roundw
            case measure => simp [intOf]; omega
            case rel => exact ⟨i, j + 1, L, rfl, by go_num, by omega, by omega, B3, O3, SK2⟩
          | false =>
            have KE2 := Asd.mk (KE.out hq)
            have hiL : i < L.length := by omega
            clear hq SK KE
            obtain ⟨cur, hh, hcs⟩ : ∃ cur, w3.heap[g]? = some (.cells cur 29 (0, 0)) ∧ cur.size = c * 3 := by
              rcases O3.out.2 with ⟨h1, _⟩ | ⟨g', cap, cur, hv, hgb, hh, _, _, hz, _⟩
              · cases h1
              · injection hv with hv _ hv3
                injection hv with hv
                injection hv with hv _ _
                subst hv hv3
                exact ⟨cur, hh, hz⟩
            have c0 : w3.cell? ⟨g, i * 3, none⟩ = some (cur[i * 3]'(by omega)) := (cell_of_row _ _ _ _ _ _ hh).trans (Array.getElem?_eq_getElem (by omega))
            have c1 : w3.cell? ⟨g, i * 3 + 1, none⟩ = some (cur[i * 3 + 1]'(by omega)) := (cell_of_row _ _ _ _ _ _ hh).trans (Array.getElem?_eq_getElem (by omega))
            have c2 : w3.cell? ⟨g, i * 3 + 2, none⟩ = some (cur[i * 3 + 2]'(by omega)) := (cell_of_row _ _ _ _ _ _ hh).trans (Array.getElem?_eq_getElem (by omega))
            have f0 : w3.frozen? ⟨g, i * 3, none⟩ = false := frozen_of_row _ _ _ _ _ hh
            have f1 : w3.frozen? ⟨g, i * 3 + 1, none⟩ = false := frozen_of_row _ _ _ _ _ hh
            have f2 : w3.frozen? ⟨g, i * 3 + 2, none⟩ = false := frozen_of_row _ _ _ _ _ hh
            generalize (cur[i * 3]'(by omega)) = v0 at c0
            generalize (cur[i * 3 + 1]'(by omega)) = v1 at c1
            generalize (cur[i * 3 + 2]'(by omega)) = v2 at c2
            have hic : i < c := by omega
            have O4 := Asd.mk (own_row (i := i) O3.out (by omega) hiL y)
            have B4 := Asd.mk (((B3.out.setCell (p := ⟨g, i * 3, none⟩) hgb (.string y.key)).setCell (p := ⟨g, i * 3 + 1, none⟩) hgb (.int .i64 y.stamp)).setCell (p := ⟨g, i * 3 + 2, none⟩) hgb (.string y.val))
            clear hh hcs X3 B3 O3
            go_wp2_with fail
            go_roundw
            case measure => simp [intOf]; omega
            case rel => exact ⟨i + 1, j + 1, _, by go_num, by go_num, by omega, by omega, B4, O4, KE2⟩
        · have hj : j = n := by omega
          subst hj
          have hic : i < c := by omega
          have hnic : ¬ c = i := by omega
          have hin' : i < j := hij
          obtain ⟨_, _, hs, hr⟩ := Rd.of_own (base := base) OW.out
          injection hs with hs1 _ hs2
          subst hs1 hs2
          obtain ⟨cur, hh, hcs⟩ : ∃ cur, wr.heap[g]? = some (.cells cur 29 (0, 0)) ∧ cur.size = c * 3 := by
            rcases OW.out.2 with ⟨h1, _⟩ | ⟨g', cap, cur, hv, hgb, hh, _, _, hz, _⟩
            · cases h1
            · injection hv with hv _ hv3
              injection hv with hv
              injection hv with hv _ _
              subst hv hv3
              exact ⟨cur, hh, hz⟩
          have hcl := fun ty => run_clear_cells wr 22 29 ty _ Try.underlying22 zero_row g (i * 3) (j - i) (c - i) (by omega) _ rfl (zrow_one _) (fun k hk => by
              have hk' := (zrow_len (j - i)) ▸ hk
              rw [cell_of_row _ _ _ _ _ _ hh, Array.getElem?_eq_getElem (by omega)]; rfl) (fun k _ => frozen_of_row _ _ _ _ _ hh)
          have XR : Asd (Rd base 29 (wr.setCells g (i * 3) (Builtin.zeroCells #[.string ⟨#[]⟩, .int .i64 0, .string ⟨#[]⟩] (j - i)).toList) 3 (some ⟨g, 0, none⟩) i c (rowCells (l.filter fun r => !p r))) := ⟨by
            have hd : L.take i = l.filter (fun r => !p r) := by
              have h := DI.out
              rw [← N.out] at h
              exact h.all
            have hp := hr.prefix_ (hi := i) (c' := c) (by omega) (by omega) (Nat.le_refl _) (fun e => (by cases e))
            rw [show (rowCells L).take (i * 3) = rowCells (L.take i) from flat_take Rw.enc 3 (fun _ => rfl) L i, hd] at hp
            refine ⟨hp.len, hp.cap, hp.nil, fun h0 => ?_⟩
            obtain ⟨b2, off, he, hst, hcc⟩ := hp.at_ h0
            injection he with he
            injection he with he1 he2 _
            subst he1 he2
            refine ⟨g, 0, rfl, ?_, fun k u hk => ?_⟩
            · have hi : IsT (wr.setCells g (i * 3) (Builtin.zeroCells #[.string ⟨#[]⟩, .int .i64 0, .string ⟨#[]⟩] (j - i)).toList) g 29 := ist_setc g _ _ ⟨_, _, hh⟩
              exact ⟨hi.lt, .inr hi⟩
            · rw [World.cell?_setCells_out g _ _ _ _ (fun _ _ => .inl ?_)]
              · exact hcc k u hk
              · have := (List.getElem?_eq_some_iff.1 hk).1
                rw [hp.len] at this
                simpa using this⟩
          have BX := Asd.mk (below_setc g hgb (Builtin.zeroCells #[.string ⟨#[]⟩, .int .i64 0, .string ⟨#[]⟩] (j - i)).toList (i * 3) BW.out)
          clear hr hh hcs
          go_wp2_with (simp only [hcl])
          go_ret
          exact ⟨some ⟨g, 0, none⟩, i, c, rfl, BX.out, XR.out⟩
end Go.Proofs.Ytgiajfgeplekbaa

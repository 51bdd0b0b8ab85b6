/- The document's table: one operation. -/
import Derived.Test.YtlhjfblpinpjiaaV5
import Derived.Test.YtlhjfblpinpjiaaTb7w
set_option linter.unusedVariables false
set_option linter.unusedSimpArgs false
namespace Go.Proofs.Ytlhjfblpinpjiaa
open Go.RowKit

theorem opOk_kind {x : OpR} (h : opOk x = true) : (x.kind = 1 ∧ x.test = 0) ∨ x.kind = 2 ∨ x.kind = 3 ∨ x.kind = 4 ∨ x.kind = 5 ∨ (x.kind = 6 ∧ 1 ≤ x.most ∧ x.most ≤ 100) := by
  unfold opOk at h
  by_cases h1 : x.kind = 1
  · simp [h1] at h
    exact .inl ⟨h1, by simp_all⟩
  · by_cases h2 : x.kind = 2
    · exact .inr (.inl h2)
    · by_cases h3 : x.kind = 3
      · exact .inr (.inr (.inl h3))
      · by_cases h4 : x.kind = 4
        · exact .inr (.inr (.inr (.inl h4)))
        · by_cases h5 : x.kind = 5
          · exact .inr (.inr (.inr (.inr (.inl h5))))
          · by_cases h6 : x.kind = 6
            · simp [h6] at h
              exact .inr (.inr (.inr (.inr (.inr ⟨h6, by omega, by omega⟩))))
            · simp [h1, h2, h3, h4, h5, h6] at h
theorem rwriteP_eq {l : List Rw} (hs : Sorted l) (hl : l.length ≤ 4096) {x : OpR} (h : (x.kind = 1 ∧ x.test = 0) ∨ x.kind = 2 ∨ x.kind = 3) : rwriteP l x = writeP l x := by
  obtain ⟨kind, key, val, stamp, test, most⟩ := x
  simp only at h
  unfold rwriteP writeP changeP addP putL
  dsimp only
  cases ht : there key l with
  | true =>
    rcases h with ⟨rfl, rfl⟩ | rfl | rfl <;> simp
  | false =>
    rcases h with ⟨rfl, rfl⟩ | rfl | rfl <;> simp

def ROnePost (base : Nat) (w : World) (A : Option Addr) (g : Nat) (p : List Rw × Res) (e : Ending) (w' : World) : Prop :=
  ∃ A1 n1 c1, e = .returned (p.2.raw A1 n1 c1) ∧ w.grownBy w' (some g) ∧ (∃ A' c', RTab base w' g p.1 A' c' ∧ Fr w A A') ∧ Rd base 86 w' 3 A1 n1 c1 (rowCells p.2.rows) ∧ w'.ownsRow w.heap.size 86 3 (.slice A1 n1 c1) n1 (rowCells p.2.rows)
theorem ROnePost.flat {base g : Nat} {A : Option Addr} {w w' : World} {p : List Rw × Res} {e : Ending} (h : RWritePost base w A g p e w') (hr : p.2.rows = []) : ROnePost base w A g p e w' := by
  obtain ⟨he, hg, A', c', h1, h2⟩ := h
  refine ⟨none, 0, 0, he, hg, ⟨A', c', h1, h2⟩, ?_, ?_⟩
  · rw [hr]; exact Rd.none_
  · rw [hr]; exact World.ownsRow_nil _ _ _ _
theorem rwrite_norows (l : List Rw) (x : OpR) : (rwriteP l x).2.rows = [] := by
  unfold rwriteP changeP addP Res.fail
  split
  · split
    · rfl
    · split
      · rfl
      · split <;> rfl
  · split
    · rfl
    · split
      · rfl
      · split <;> rfl
theorem rfin {base g c : Nat} {w w2 : World} {l : List Rw} {A : Option Addr} (h : RTab base w g l A c) (hb : Below w.heap.size w w2) (hT : IsT w2 (w.heap.size + 1) 47) (r : Res) (hr : r.rows = []) (u0 u1 u2 u3 : Value) :
    ROnePost base w A g (l, r) (.returned r.flat) ((((w2.setCell ⟨w.heap.size + 1, 0, none⟩ u0).setCell ⟨w.heap.size + 1, 1, none⟩ u1).setCell ⟨w.heap.size + 1, 2, none⟩ u2).setCell ⟨w.heap.size + 1, 3, none⟩ u3) :=
  ROnePost.flat ⟨rfl, gb_set (gb_set (gb_set (gb_set (gb_below hb _) (by simp) _) (by simp) _) (by simp) _) (by simp) _, A, _, (h.below hb).set4 hT (by decide) (by decide) (by have := h.ge; have := h.lt; omega) _ _ _ _, .inl rfl⟩ hr

theorem ROnePost.alloc {base g : Nat} {w w' : World} {A : Option Addr} {p : List Rw × Res} {e : Ending} (h : ROnePost base w A g p e w') (o : Obj) : ROnePost base w A g p e (w'.alloc o) := by
  obtain ⟨A1, n1, c1, he, hg, ⟨A', c', h1, h2⟩, h3, h4⟩ := h
  have hb : Below w'.heap.size w' (w'.alloc o) := (Below.refl _ _).alloc (Nat.le_refl _) o
  exact ⟨A1, n1, c1, he, gb_trans hg (gb_below hb _), ⟨A', c', h1.below hb, h2⟩, h3.below hb, h4.kept (gb_below hb none) (by cases (Value.slice A1 n1 c1).ownBlock <;> simp)⟩

set_option maxHeartbeats 8000000 in
set_option maxRecDepth 100000 in
theorem ROne_calls {base g c : Nat} {w : World} {l : List Rw} {A : Option Addr} (h : RTab base w g l A c) (x : OpR) (hv : x.val.size ≤ 9223372036854775807) (hok : opOk x = true) :
    Calls Try.prog 71 #[.pointer (some ⟨g, 0, none⟩), .agg x.enc.toArray] w (ROnePost base w A g (oneP l x)) := by
  have hkind := opOk_kind hok
  have WR : Asd (∀ W, Below w.heap.size w W → Calls Try.prog 78 #[.pointer (some ⟨g, 0, none⟩), .agg x.enc.toArray] W (RWritePost base W A g (rwriteP l x))) := ⟨fun W hW => Rwrite_calls (h.below hW) x hv⟩
  have WE : Asd ((x.kind = 1 ∧ x.test = 0) ∨ x.kind = 2 ∨ x.kind = 3 → rwriteP l x = writeP l x) := ⟨fun hh => rwriteP_eq h.srt h.big hh⟩
  have WN := Asd.mk (rwrite_norows l x)
  clear hok
  obtain ⟨kind, key, val, stamp, test, most⟩ := x
  simp only at hv hkind
  generalize hp : oneP l ⟨kind, key, val, stamp, test, most⟩ = p
  have P := Asd.mk hp
  clear hp
  unfold OpR.enc at *
  have H := Asd.mk h
  have AT : Asd (∀ W, Below w.heap.size w W → Calls Try.prog 77 #[.pointer (some ⟨g, 0, none⟩), .string key] W fun e w' => e = .returned (.tuple #[.int .i64 (pos key l), .bool (there key l)]) ∧ Below W.heap.size W w') := ⟨fun W hW => Find_calls (h.below hW) key⟩
  have hgl := h.lt
  have hl4 := h.big
  have hpl := pos_le key l
  clear h
  have hB0 : Below w.heap.size w ((w.alloc (.cells #[.int .i64 kind, .string key, .string val, .int .i64 stamp, .int .i64 test, .int .i64 most] 64)).alloc (.cells #[.int .i64 0, .int .i64 0, .string ⟨#[]⟩, .slice none 0 0] 47)) := ((Below.refl _ _).alloc (Nat.le_refl _) _).alloc (by simp) _
  have e0 : ((w.alloc (.cells #[.int .i64 kind, .string key, .string val, .int .i64 stamp, .int .i64 test, .int .i64 most] 64)).alloc (.cells #[.int .i64 0, .int .i64 0, .string ⟨#[]⟩, .slice none 0 0] 47)).heap[w.heap.size]? = some (.cells #[.int .i64 kind, .string key, .string val, .int .i64 stamp, .int .i64 test, .int .i64 most] 64 (0, 0)) := (Below.heap_alloc _ _ _ (by simp)).trans (heap_alloc_new w _)
  have e1 : ((w.alloc (.cells #[.int .i64 kind, .string key, .string val, .int .i64 stamp, .int .i64 test, .int .i64 most] 64)).alloc (.cells #[.int .i64 0, .int .i64 0, .string ⟨#[]⟩, .slice none 0 0] 47)).heap[w.heap.size + 1]? = some (.cells #[.int .i64 0, .int .i64 0, .string ⟨#[]⟩, .slice none 0 0] 47 (0, 0)) := by simpa using heap_alloc_new (w.alloc (.cells #[.int .i64 kind, .string key, .string val, .int .i64 stamp, .int .i64 test, .int .i64 most] 64)) (.cells #[.int .i64 0, .int .i64 0, .string ⟨#[]⟩, .slice none 0 0] 47)
  have hz0 : ((w.alloc (.cells #[.int .i64 kind, .string key, .string val, .int .i64 stamp, .int .i64 test, .int .i64 most] 64)).alloc (.cells #[.int .i64 0, .int .i64 0, .string ⟨#[]⟩, .slice none 0 0] 47)).heap.size = w.heap.size + 2 := by simp
  have B0 := Asd.mk hB0
  have E0 := Asd.mk e0
  have E1 := Asd.mk e1
  have Z0 := Asd.mk hz0
  clear hB0 e0 e1 hz0
  by_cases h6 : kind = 6
  · subst h6
    have hmost : 1 ≤ most ∧ most ≤ 100 := by omega
    obtain ⟨mn, rfl⟩ : ∃ mn : Nat, most = mn := ⟨most.toNat, by omega⟩
    have PE : Asd (p = (l, ⟨0, 0, ⟨#[]⟩, (l.drop (pos key l)).take mn⟩)) := ⟨by
      rw [← P.out]
      simp only [oneP]
      rw [if_pos trivial]
      congr 2
      rcases Nat.lt_or_ge mn (l.length - pos key l) with h1 | h1
      · congr 1; omega
      · rw [List.take_of_length_le (by rw [List.length_drop]; omega), List.take_of_length_le (by rw [List.length_drop]; exact h1)]⟩
    clear hkind WR WE WN
    go_enter Try.func71, Try.ntmps71
    go_wp2_with fail
    generalize ((w.alloc (.cells #[.int .i64 6, .string key, .string val, .int .i64 stamp, .int .i64 test, .int .i64 (mn : Int)] 64)).alloc (.cells #[.int .i64 0, .int .i64 0, .string ⟨#[]⟩, .slice none 0 0] 47)) = w0 at *

    refine (AT.out _ B0.out).mono ?_
    rintro e w1 ⟨rfl, hb1⟩
    have BB := Asd.mk (B0.out.trans (hb1.mono B0.out.size))
    have K0 := Asd.mk ((hb1.block _ (by rw [Z0.out]; omega)).trans E0.out)
    have K1 := Asd.mk ((hb1.block _ (by rw [Z0.out]; omega)).trans E1.out)
    have SIZ : Asd (w.heap.size + 2 ≤ w1.heap.size) := ⟨by have h1 := hb1.size; have h2 := Z0.out; omega⟩

    have hs1 : w.heap.size + 1 < w1.heap.size := by have h1 := BB.out.size; have h2 := SIZ.out; omega
    have hs0 : w.heap.size < w1.heap.size := by omega
    have x0 : w1.cell? ⟨w.heap.size, 0, none⟩ = some (.int .i64 6) := cell_of_row _ _ 0 _ _ _ K0.out
    have x1 : w1.cell? ⟨w.heap.size, 1, none⟩ = some (.string key) := cell_of_row _ _ 1 _ _ _ K0.out
    have x2 : w1.cell? ⟨w.heap.size, 2, none⟩ = some (.string val) := cell_of_row _ _ 2 _ _ _ K0.out
    have x3 : w1.cell? ⟨w.heap.size, 3, none⟩ = some (.int .i64 stamp) := cell_of_row _ _ 3 _ _ _ K0.out
    have x4 : w1.cell? ⟨w.heap.size, 4, none⟩ = some (.int .i64 test) := cell_of_row _ _ 4 _ _ _ K0.out
    have x5 : w1.cell? ⟨w.heap.size, 5, none⟩ = some (.int .i64 (mn : Int)) := cell_of_row _ _ 5 _ _ _ K0.out
    have r0 : w1.cell? ⟨w.heap.size + 1, 0, none⟩ = some (.int .i64 0) := cell_of_row _ _ 0 _ _ _ K1.out
    have r1 : w1.cell? ⟨w.heap.size + 1, 1, none⟩ = some (.int .i64 0) := cell_of_row _ _ 1 _ _ _ K1.out
    have r2 : w1.cell? ⟨w.heap.size + 1, 2, none⟩ = some (.string ⟨#[]⟩) := cell_of_row _ _ 2 _ _ _ K1.out
    have r3 : w1.cell? ⟨w.heap.size + 1, 3, none⟩ = some (.slice none 0 0) := cell_of_row _ _ 3 _ _ _ K1.out
    have f0 : ∀ o, w1.frozen? ⟨w.heap.size + 1, o, none⟩ = false := fun o => frozen_of_row _ _ o _ _ K1.out
    have hcg := (H.out.below BB.out).cell

    have RE1 : Asd (IsT w1 (w.heap.size + 1) 47) := ⟨_, _, K1.out⟩
    clear hb1
    go_wp2_with fail
    clear AT
    go_loopw [5, 8] (fun s5 s8 wr => ∃ (no co : Nat) (Po : Option Addr), s5 = .slice Po no co ∧ s8 = .int .i64 ((pos key l + no : Nat) : Int) ∧ pos key l + no ≤ l.length ∧ no ≤ mn ∧ Asd (Below w1.heap.size w1 wr) ∧ Asd (wr.ownsRow w1.heap.size 86 3 (.slice Po no co) no (rowCells ((l.drop (pos key l)).take no)))) (fun s5 _ _ => match s5 with | .slice _ q _ => l.length - q | _ => 0)
    case atStart => exact ⟨0, 0, none, rfl, by go_num, by omega, by omega, ⟨Below.refl _ _⟩, ⟨World.ownsRow_nil _ _ _ _⟩⟩
    case round =>
      obtain ⟨no, co, Po, rfl, rfl, hno, hnm, BW, OW⟩ := hrel
      have BN := Asd.mk (BB.out.trans (BW.out.mono BB.out.size))
      have hcr := (H.out.below BN.out).cell
      have x5r : wr.cell? ⟨w.heap.size, 5, none⟩ = some (.int .i64 (mn : Int)) := ((bcell BW.out).1 _ 5 hs0).trans x5
      have q0 := ((bcell BW.out).1 _ 0 hs1).trans r0
      have q1 := ((bcell BW.out).1 _ 1 hs1).trans r1
      have q2 := ((bcell BW.out).1 _ 2 hs1).trans r2
      have q3 := ((bcell BW.out).1 _ 3 hs1).trans r3
      have qf : ∀ o, wr.frozen? ⟨w.heap.size + 1, o, none⟩ = false := fun o => ((bcell BW.out).2 _ o hs1).trans (f0 o)
      have hsr : w.heap.size + 1 < wr.heap.size := Nat.lt_of_lt_of_le hs1 BW.out.size
      have FIN : Asd ((l.drop (pos key l)).take no = (l.drop (pos key l)).take mn → ∀ u0 u1 u2 u3, ROnePost base w A g p (.returned (Res.raw ⟨0, 0, ⟨#[]⟩, (l.drop (pos key l)).take mn⟩ Po no co)) ((((wr.setCell ⟨w.heap.size + 1, 0, none⟩ u0).setCell ⟨w.heap.size + 1, 1, none⟩ u1).setCell ⟨w.heap.size + 1, 2, none⟩ u2).setCell ⟨w.heap.size + 1, 3, none⟩ u3)) := ⟨fun he u0 u1 u2 u3 => by
        have hT : IsT wr (w.heap.size + 1) 47 := RE1.out.of_block (BW.out.block _ hs1)
        have hge : base ≤ w.heap.size + 1 := by have := H.out.ge; omega
        have hO := OW.out
        rw [he] at hO
        obtain ⟨_, _, e, hr⟩ := Rd.of_own (base := base) hO
        injection e with e1 _ e2
        subst e1 e2
        rw [PE.out]
        exact ⟨Po, no, co, rfl, gb_set (gb_set (gb_set (gb_set (gb_below BN.out _) (by simp) _) (by simp) _) (by simp) _) (by simp) _, ⟨A, c, (H.out.below BN.out).set4 hT (by decide) (by decide) hge _ _ _ _, .inl rfl⟩, hr.set4 hT (by decide) hge _ _ _ _, own_set4 (own_le hO (by have := BB.out.size; omega)) hT (by decide) _ _ _ _⟩⟩
      by_cases hlt : pos key l + no < l.length
      · by_cases hnl : no < mn
        · obtain ⟨b, off, rfl, _, hil, c0, c1, c2⟩ := (H.out.below BN.out).rd.row hlt
          have hcap : pos key l + no < c := Nat.lt_of_lt_of_le hlt H.out.rd.cap
          have htk : (l.drop (pos key l)).take (no + 1) = (l.drop (pos key l)).take no ++ [l[pos key l + no]] := by
            rw [List.take_succ_eq_append_getElem (by rw [List.length_drop]; omega), List.getElem_drop]
          generalize l[pos key l + no] = y at c0 c1 c2 htk
          have TK := Asd.mk htk
          have hlt1 : ((pos key l + no : Nat) : Int) < (l.length : Int) := by omega
          have hlt2 : (no : Int) < (mn : Int) := by omega
          clear htk q0 q1 q2 q3 qf FIN r0 r1 r2 r3 f0 x0 x1 x2 x3 x4
          generalize hpn : pos key l + no = pn at *
          have PN := Asd.mk hpn
          clear hpn
          go_wp2_with (at_builtin; refine wpList_append_mine (base := base) (own := w1.heap.size) (n := no) (m := 1) (v := .slice Po no co) (xs := rowCells ((l.drop (pos key l)).take no)) (ys := rowCells [y]) rfl (.tmp 39) (.tmp 47) 45 rfl elt_row rfl rfl (OW.out.alloc _) (Rd.new_ rfl rfl) (row_one _) (by unfold maxLen; omega) (by omega) (Nat.le_trans BW.out.size (by simp)) ?_; intro v8 w8 O8' G8'; obtain ⟨P8, c8, rfl, _⟩ := Rd.of_own (base := base) O8'; have O8 : Asd (w8.ownsRow w1.heap.size 86 3 (.slice P8 (no + 1) c8) (no + 1) (rowCells ((l.drop (pos key l)).take (no + 1)))) := ⟨by have h := O8'; rw [TK.out]; unfold rowCells at h ⊢; rw [List.flatMap_append]; exact h⟩; have B8 := Asd.mk ((BW.out.alloc BW.out.size (.cells #[.string y.key, .int .i64 y.stamp, .string y.val] 86)).grown G8' (Nat.le_trans BW.out.size (by simp)) (fun j hj => (OW.out.lt j hj).1)); clear O8' G8')
          go_roundw
          case measure => simp; have := PN.out; omega
          case rel => exact ⟨no + 1, c8, P8, rfl, by have := PN.out; subst this; go_num, by have := PN.out; omega, by omega, B8, O8⟩
        · have hnm2 : no = mn := by omega
          subst hnm2
          have FF := Asd.mk (FIN.out rfl)
          have hlt1 : ((pos key l + no : Nat) : Int) < (l.length : Int) := by omega
          clear FIN
          generalize hpn : pos key l + no = pn at *
          clear hpn
          go_wp2_with fail
          refine bodyPost_ret (v := Res.raw ⟨0, 0, ⟨#[]⟩, (l.drop (pos key l)).take no⟩ Po no co) (by simp [results, Try.results71, go_sem, Res.raw, Res.flat, Res.fail, q0, q1, q2, q3, hsr]) rfl ?_
          exact FF.out _ _ _ _
      · have FF := Asd.mk (FIN.out (by rw [List.take_of_length_le (by rw [List.length_drop]; omega), List.take_of_length_le (by rw [List.length_drop]; omega)]))
        have hlt1 : ¬ ((pos key l + no : Nat) : Int) < (l.length : Int) := by omega
        clear FIN
        generalize hpn : pos key l + no = pn at *
        clear hpn
        go_wp2_with fail
        refine bodyPost_ret (v := Res.raw ⟨0, 0, ⟨#[]⟩, (l.drop (pos key l)).take mn⟩ Po no co) (by simp [results, Try.results71, go_sem, Res.raw, Res.flat, Res.fail, q0, q1, q2, q3, hsr]) rfl ?_
        exact FF.out _ _ _ _
  · have k6 : (kind == 6) = false := by simpa using h6
    by_cases h45 : kind = 4 ∨ kind = 5
    · have hk45 := h45
      clear WR WE WN
      rcases h45 with rfl | rfl
      · skip
        have PN : Asd (there key l = false → p = (l, Res.fail 91 0)) := ⟨fun h => by rw [← P.out]; simp [oneP, h]⟩
        have PT : Asd (there key l = true → ∀ r, rowAt l (pos key l) = r → p = if test ≠ 0 ∧ test ≠ r.stamp then (l, Res.fail 92 r.stamp) else (l.take (pos key l) ++ l.drop (pos key l + 1), Res.fail 0 r.stamp)) := ⟨fun h r hr => by rw [← P.out]; simp [oneP, h, hr]⟩
        clear hkind hk45
        go_enter Try.func71, Try.ntmps71
        go_wp2_with fail
        generalize ((w.alloc (.cells #[.int .i64 4, .string key, .string val, .int .i64 stamp, .int .i64 test, .int .i64 most] 64)).alloc (.cells #[.int .i64 0, .int .i64 0, .string ⟨#[]⟩, .slice none 0 0] 47)) = w0 at *

        refine (AT.out _ B0.out).mono ?_
        rintro e w1 ⟨rfl, hb1⟩
        have BB := Asd.mk (B0.out.trans (hb1.mono B0.out.size))
        have K0 := Asd.mk ((hb1.block _ (by rw [Z0.out]; omega)).trans E0.out)
        have K1 := Asd.mk ((hb1.block _ (by rw [Z0.out]; omega)).trans E1.out)
        have SIZ : Asd (w.heap.size + 2 ≤ w1.heap.size) := ⟨by have h1 := hb1.size; have h2 := Z0.out; omega⟩

        have hs1 : w.heap.size + 1 < w1.heap.size := by have h1 := BB.out.size; have h2 := SIZ.out; omega
        have hs0 : w.heap.size < w1.heap.size := by omega
        have x0 : w1.cell? ⟨w.heap.size, 0, none⟩ = some (.int .i64 4) := cell_of_row _ _ 0 _ _ _ K0.out
        have x1 : w1.cell? ⟨w.heap.size, 1, none⟩ = some (.string key) := cell_of_row _ _ 1 _ _ _ K0.out
        have x2 : w1.cell? ⟨w.heap.size, 2, none⟩ = some (.string val) := cell_of_row _ _ 2 _ _ _ K0.out
        have x3 : w1.cell? ⟨w.heap.size, 3, none⟩ = some (.int .i64 stamp) := cell_of_row _ _ 3 _ _ _ K0.out
        have x4 : w1.cell? ⟨w.heap.size, 4, none⟩ = some (.int .i64 test) := cell_of_row _ _ 4 _ _ _ K0.out
        have x5 : w1.cell? ⟨w.heap.size, 5, none⟩ = some (.int .i64 most) := cell_of_row _ _ 5 _ _ _ K0.out
        have r0 : w1.cell? ⟨w.heap.size + 1, 0, none⟩ = some (.int .i64 0) := cell_of_row _ _ 0 _ _ _ K1.out
        have r1 : w1.cell? ⟨w.heap.size + 1, 1, none⟩ = some (.int .i64 0) := cell_of_row _ _ 1 _ _ _ K1.out
        have r2 : w1.cell? ⟨w.heap.size + 1, 2, none⟩ = some (.string ⟨#[]⟩) := cell_of_row _ _ 2 _ _ _ K1.out
        have r3 : w1.cell? ⟨w.heap.size + 1, 3, none⟩ = some (.slice none 0 0) := cell_of_row _ _ 3 _ _ _ K1.out
        have f0 : ∀ o, w1.frozen? ⟨w.heap.size + 1, o, none⟩ = false := fun o => frozen_of_row _ _ o _ _ K1.out
        have hcg := (H.out.below BB.out).cell

        have RE1 : Asd (IsT w1 (w.heap.size + 1) 47) := ⟨_, _, K1.out⟩
        clear hb1
        cases ht : there key l with
        | false =>
          have PE := Asd.mk (PN.out ht)
          go_wp2_with fail
          refine bodyPost_ret (v := (Res.fail 91 0).flat) (by simp [results, Try.results71, go_sem, Res.raw, Res.flat, Res.fail, r0, r1, r2, r3, hs0, hs1]) rfl ?_
          rw [PE.out]
          exact rfin H.out BB.out RE1.out (Res.fail 91 0) rfl _ _ _ _
        | true =>
          obtain ⟨hpl2, hpk⟩ := pos_lt H.out.srt ht
          have hpc : (pos key l : Int) < (l.length : Int) := by omega
          obtain ⟨b, off, rfl, hbl, hl, c0, c1, c2⟩ := (H.out.below BB.out).rd.row hpl2
          have hcap : pos key l < c := Nat.lt_of_lt_of_le hpl2 H.out.rd.cap
          have RA := rowAt_eq hpl2
          generalize l[pos key l] = r at RA c0 c1 c2
          have PE := Asd.mk (PT.out ht r RA)
          clear RA hpk ht PN PT AT
          have hal : Below w1.heap.size w1 (w1.alloc (.cells #[.string r.key, .int .i64 r.stamp, .string r.val] 86)) := (Below.refl _ _).alloc (Nat.le_refl _) _
          have BA := Asd.mk (BB.out.trans (hal.mono BB.out.size))
          have REA : Asd (IsT (w1.alloc (.cells #[.string r.key, .int .i64 r.stamp, .string r.val] 86)) (w.heap.size + 1) 47) := ⟨RE1.out.of_block (hal.block _ hs1)⟩
          have RB : Asd ((w1.alloc (.cells #[.string r.key, .int .i64 r.stamp, .string r.val] 86)).heap[w1.heap.size]? = some (.cells #[.string r.key, .int .i64 r.stamp, .string r.val] 86 (0, 0))) := ⟨heap_alloc_new w1 _⟩
          have RZ : Asd ((w1.alloc (.cells #[.string r.key, .int .i64 r.stamp, .string r.val] 86)).heap[w.heap.size + 1]? = some (.cells #[.int .i64 0, .int .i64 0, .string ⟨#[]⟩, .slice none 0 0] 47 (0, 0))) := ⟨(hal.block _ hs1).trans K1.out⟩
          clear hal
          by_cases h1 : test ≠ 0 ∧ test ≠ r.stamp
          · have q1 : (test == 0) = false := by simpa using h1.1
            have q1' : (test != 0) = true := by simpa using h1.1
            have q2 : (test == r.stamp) = false := by simpa using h1.2
            have q2' : (test != r.stamp) = true := by simpa using h1.2
            have PF : Asd (p = (l, Res.fail 92 r.stamp)) := ⟨by rw [PE.out, if_pos h1]⟩
            clear h1
            go_wp2_with fail
            refine bodyPost_ret (v := (Res.fail 92 r.stamp).flat) (by simp [results, Try.results71, go_sem, Res.raw, Res.flat, Res.fail, r0, r1, r2, r3, hs0, hs1]) rfl ?_
            rw [PF.out]
            exact (rfin H.out BB.out RE1.out (Res.fail 92 r.stamp) rfl _ _ _ _).alloc _
          · have PF : Asd (p = (l.take (pos key l) ++ l.drop (pos key l + 1), Res.fail 0 r.stamp)) := ⟨by rw [PE.out, if_neg h1]⟩
            clear PE
            by_cases h0 : test = 0
            · subst h0
              clear h1
              have DC : Asd (∀ W, Below w.heap.size w W → Calls Try.prog 79 #[.pointer (some ⟨g, 0, none⟩), .int .i64 (pos key l)] W (RPutPost base W (some ⟨b, off, none⟩) g (l.take (pos key l) ++ l.drop (pos key l + 1)))) := ⟨fun W hW => Rdrop_calls (H.out.below hW) (pos key l) hpl2⟩
              go_wp2_with fail
              refine (DC.out _ BA.out).mono ?_
              rintro e w3 ⟨rfl, hg3, A3, c3, hT3, hfr3⟩
              have hn1 : w1.heap.size ≠ g := by omega
              have hn2 : w.heap.size + 1 ≠ g := by omega
              have q := (gb_keep hg3 (b := w.heap.size + 1) (by simp; omega) hn2).trans RZ.out
              have q' := (gb_keep hg3 (b := w1.heap.size) (by simp) hn1).trans RB.out
              have hs3 : w.heap.size + 1 < w3.heap.size := by have h1 := hg3.size; simp at h1; omega
              have z0 : w3.cell? ⟨w.heap.size + 1, 0, none⟩ = some (.int .i64 0) := cell_of_row _ _ 0 _ _ _ q
              have z1 : w3.cell? ⟨w.heap.size + 1, 1, none⟩ = some (.int .i64 0) := cell_of_row _ _ 1 _ _ _ q
              have z2 : w3.cell? ⟨w.heap.size + 1, 2, none⟩ = some (.string ⟨#[]⟩) := cell_of_row _ _ 2 _ _ _ q
              have z3 : w3.cell? ⟨w.heap.size + 1, 3, none⟩ = some (.slice none 0 0) := cell_of_row _ _ 3 _ _ _ q
              have z4 : w3.cell? ⟨w1.heap.size, 1, none⟩ = some (.int .i64 r.stamp) := cell_of_row _ _ 1 _ _ _ q'
              have fz : ∀ o, w3.frozen? ⟨w.heap.size + 1, o, none⟩ = false := fun o => frozen_of_row _ _ o _ _ q
              have FIN : Asd (∀ u0 u1 u2 u3, ROnePost base w (some ⟨b, off, none⟩) g p (.returned (Res.fail 0 r.stamp).flat) ((((w3.setCell ⟨w.heap.size + 1, 0, none⟩ u0).setCell ⟨w.heap.size + 1, 1, none⟩ u1).setCell ⟨w.heap.size + 1, 2, none⟩ u2).setCell ⟨w.heap.size + 1, 3, none⟩ u3)) := ⟨fun u0 u1 u2 u3 => by
                rw [PF.out]
                refine ROnePost.flat ⟨rfl, ?_, A3, c3, ?_, Fr.mono hfr3 BA.out.size⟩ rfl
                · exact gb_set (gb_set (gb_set (gb_set (gb_trans (gb_below BA.out _) hg3) (by simp) _) (by simp) _) (by simp) _) (by simp) _
                · exact RTab.set4 hT3 ⟨_, _, q⟩ (by decide) (by decide) (by have := H.out.ge; omega) _ _ _ _⟩
              clear hg3 hT3 hfr3 q q'
              go_wp2_with fail
              refine bodyPost_ret (v := (Res.fail 0 r.stamp).flat) (by simp [results, Try.results71, go_sem, Res.raw, Res.flat, Res.fail, z0, z1, z2, z3, hs3]) rfl ?_
              exact FIN.out _ _ _ _
            · have q1 : (test == 0) = false := by simpa using h0
              have q1' : (test != 0) = true := by simpa using h0
              have hts : test = r.stamp := by omega
              subst hts
              clear h1
              have DC : Asd (∀ W, Below w.heap.size w W → Calls Try.prog 79 #[.pointer (some ⟨g, 0, none⟩), .int .i64 (pos key l)] W (RPutPost base W (some ⟨b, off, none⟩) g (l.take (pos key l) ++ l.drop (pos key l + 1)))) := ⟨fun W hW => Rdrop_calls (H.out.below hW) (pos key l) hpl2⟩
              go_wp2_with fail
              refine (DC.out _ BA.out).mono ?_
              rintro e w3 ⟨rfl, hg3, A3, c3, hT3, hfr3⟩
              have hn1 : w1.heap.size ≠ g := by omega
              have hn2 : w.heap.size + 1 ≠ g := by omega
              have q := (gb_keep hg3 (b := w.heap.size + 1) (by simp; omega) hn2).trans RZ.out
              have q' := (gb_keep hg3 (b := w1.heap.size) (by simp) hn1).trans RB.out
              have hs3 : w.heap.size + 1 < w3.heap.size := by have h1 := hg3.size; simp at h1; omega
              have z0 : w3.cell? ⟨w.heap.size + 1, 0, none⟩ = some (.int .i64 0) := cell_of_row _ _ 0 _ _ _ q
              have z1 : w3.cell? ⟨w.heap.size + 1, 1, none⟩ = some (.int .i64 0) := cell_of_row _ _ 1 _ _ _ q
              have z2 : w3.cell? ⟨w.heap.size + 1, 2, none⟩ = some (.string ⟨#[]⟩) := cell_of_row _ _ 2 _ _ _ q
              have z3 : w3.cell? ⟨w.heap.size + 1, 3, none⟩ = some (.slice none 0 0) := cell_of_row _ _ 3 _ _ _ q
              have z4 : w3.cell? ⟨w1.heap.size, 1, none⟩ = some (.int .i64 r.stamp) := cell_of_row _ _ 1 _ _ _ q'
              have fz : ∀ o, w3.frozen? ⟨w.heap.size + 1, o, none⟩ = false := fun o => frozen_of_row _ _ o _ _ q
              have FIN : Asd (∀ u0 u1 u2 u3, ROnePost base w (some ⟨b, off, none⟩) g p (.returned (Res.fail 0 r.stamp).flat) ((((w3.setCell ⟨w.heap.size + 1, 0, none⟩ u0).setCell ⟨w.heap.size + 1, 1, none⟩ u1).setCell ⟨w.heap.size + 1, 2, none⟩ u2).setCell ⟨w.heap.size + 1, 3, none⟩ u3)) := ⟨fun u0 u1 u2 u3 => by
                rw [PF.out]
                refine ROnePost.flat ⟨rfl, ?_, A3, c3, ?_, Fr.mono hfr3 BA.out.size⟩ rfl
                · exact gb_set (gb_set (gb_set (gb_set (gb_trans (gb_below BA.out _) hg3) (by simp) _) (by simp) _) (by simp) _) (by simp) _
                · exact RTab.set4 hT3 ⟨_, _, q⟩ (by decide) (by decide) (by have := H.out.ge; omega) _ _ _ _⟩
              clear hg3 hT3 hfr3 q q'
              go_wp2_with fail
              refine bodyPost_ret (v := (Res.fail 0 r.stamp).flat) (by simp [results, Try.results71, go_sem, Res.raw, Res.flat, Res.fail, z0, z1, z2, z3, hs3]) rfl ?_
              exact FIN.out _ _ _ _
      · skip
        have PN : Asd (there key l = false → p = (l, Res.fail 91 0)) := ⟨fun h => by rw [← P.out]; simp [oneP, h]⟩
        have PT : Asd (there key l = true → ∀ r, rowAt l (pos key l) = r → p = if test ≠ 0 ∧ test ≠ r.stamp then (l, Res.fail 92 r.stamp) else (l, ⟨0, r.stamp, r.val, []⟩)) := ⟨fun h r hr => by rw [← P.out]; simp [oneP, h, hr]⟩
        clear hkind hk45
        go_enter Try.func71, Try.ntmps71
        go_wp2_with fail
        generalize ((w.alloc (.cells #[.int .i64 5, .string key, .string val, .int .i64 stamp, .int .i64 test, .int .i64 most] 64)).alloc (.cells #[.int .i64 0, .int .i64 0, .string ⟨#[]⟩, .slice none 0 0] 47)) = w0 at *

        refine (AT.out _ B0.out).mono ?_
        rintro e w1 ⟨rfl, hb1⟩
        have BB := Asd.mk (B0.out.trans (hb1.mono B0.out.size))
        have K0 := Asd.mk ((hb1.block _ (by rw [Z0.out]; omega)).trans E0.out)
        have K1 := Asd.mk ((hb1.block _ (by rw [Z0.out]; omega)).trans E1.out)
        have SIZ : Asd (w.heap.size + 2 ≤ w1.heap.size) := ⟨by have h1 := hb1.size; have h2 := Z0.out; omega⟩

        have hs1 : w.heap.size + 1 < w1.heap.size := by have h1 := BB.out.size; have h2 := SIZ.out; omega
        have hs0 : w.heap.size < w1.heap.size := by omega
        have x0 : w1.cell? ⟨w.heap.size, 0, none⟩ = some (.int .i64 5) := cell_of_row _ _ 0 _ _ _ K0.out
        have x1 : w1.cell? ⟨w.heap.size, 1, none⟩ = some (.string key) := cell_of_row _ _ 1 _ _ _ K0.out
        have x2 : w1.cell? ⟨w.heap.size, 2, none⟩ = some (.string val) := cell_of_row _ _ 2 _ _ _ K0.out
        have x3 : w1.cell? ⟨w.heap.size, 3, none⟩ = some (.int .i64 stamp) := cell_of_row _ _ 3 _ _ _ K0.out
        have x4 : w1.cell? ⟨w.heap.size, 4, none⟩ = some (.int .i64 test) := cell_of_row _ _ 4 _ _ _ K0.out
        have x5 : w1.cell? ⟨w.heap.size, 5, none⟩ = some (.int .i64 most) := cell_of_row _ _ 5 _ _ _ K0.out
        have r0 : w1.cell? ⟨w.heap.size + 1, 0, none⟩ = some (.int .i64 0) := cell_of_row _ _ 0 _ _ _ K1.out
        have r1 : w1.cell? ⟨w.heap.size + 1, 1, none⟩ = some (.int .i64 0) := cell_of_row _ _ 1 _ _ _ K1.out
        have r2 : w1.cell? ⟨w.heap.size + 1, 2, none⟩ = some (.string ⟨#[]⟩) := cell_of_row _ _ 2 _ _ _ K1.out
        have r3 : w1.cell? ⟨w.heap.size + 1, 3, none⟩ = some (.slice none 0 0) := cell_of_row _ _ 3 _ _ _ K1.out
        have f0 : ∀ o, w1.frozen? ⟨w.heap.size + 1, o, none⟩ = false := fun o => frozen_of_row _ _ o _ _ K1.out
        have hcg := (H.out.below BB.out).cell

        have RE1 : Asd (IsT w1 (w.heap.size + 1) 47) := ⟨_, _, K1.out⟩
        clear hb1
        cases ht : there key l with
        | false =>
          have PE := Asd.mk (PN.out ht)
          go_wp2_with fail
          refine bodyPost_ret (v := (Res.fail 91 0).flat) (by simp [results, Try.results71, go_sem, Res.raw, Res.flat, Res.fail, r0, r1, r2, r3, hs0, hs1]) rfl ?_
          rw [PE.out]
          exact rfin H.out BB.out RE1.out (Res.fail 91 0) rfl _ _ _ _
        | true =>
          obtain ⟨hpl2, hpk⟩ := pos_lt H.out.srt ht
          have hpc : (pos key l : Int) < (l.length : Int) := by omega
          obtain ⟨b, off, rfl, hbl, hl, c0, c1, c2⟩ := (H.out.below BB.out).rd.row hpl2
          have hcap : pos key l < c := Nat.lt_of_lt_of_le hpl2 H.out.rd.cap
          have RA := rowAt_eq hpl2
          generalize l[pos key l] = r at RA c0 c1 c2
          have PE := Asd.mk (PT.out ht r RA)
          clear RA hpk ht PN PT AT
          have hal : Below w1.heap.size w1 (w1.alloc (.cells #[.string r.key, .int .i64 r.stamp, .string r.val] 86)) := (Below.refl _ _).alloc (Nat.le_refl _) _
          have BA := Asd.mk (BB.out.trans (hal.mono BB.out.size))
          have REA : Asd (IsT (w1.alloc (.cells #[.string r.key, .int .i64 r.stamp, .string r.val] 86)) (w.heap.size + 1) 47) := ⟨RE1.out.of_block (hal.block _ hs1)⟩
          have RB : Asd ((w1.alloc (.cells #[.string r.key, .int .i64 r.stamp, .string r.val] 86)).heap[w1.heap.size]? = some (.cells #[.string r.key, .int .i64 r.stamp, .string r.val] 86 (0, 0))) := ⟨heap_alloc_new w1 _⟩
          have RZ : Asd ((w1.alloc (.cells #[.string r.key, .int .i64 r.stamp, .string r.val] 86)).heap[w.heap.size + 1]? = some (.cells #[.int .i64 0, .int .i64 0, .string ⟨#[]⟩, .slice none 0 0] 47 (0, 0))) := ⟨(hal.block _ hs1).trans K1.out⟩
          clear hal
          by_cases h1 : test ≠ 0 ∧ test ≠ r.stamp
          · have q1 : (test == 0) = false := by simpa using h1.1
            have q1' : (test != 0) = true := by simpa using h1.1
            have q2 : (test == r.stamp) = false := by simpa using h1.2
            have q2' : (test != r.stamp) = true := by simpa using h1.2
            have PF : Asd (p = (l, Res.fail 92 r.stamp)) := ⟨by rw [PE.out, if_pos h1]⟩
            clear h1
            go_wp2_with fail
            refine bodyPost_ret (v := (Res.fail 92 r.stamp).flat) (by simp [results, Try.results71, go_sem, Res.raw, Res.flat, Res.fail, r0, r1, r2, r3, hs0, hs1]) rfl ?_
            rw [PF.out]
            exact (rfin H.out BB.out RE1.out (Res.fail 92 r.stamp) rfl _ _ _ _).alloc _
          · have PF : Asd (p = (l, ⟨0, r.stamp, r.val, []⟩)) := ⟨by rw [PE.out, if_neg h1]⟩
            clear PE
            by_cases h0 : test = 0
            · subst h0
              clear h1
              go_wp2_with fail
              refine bodyPost_ret (v := Res.flat ⟨0, r.stamp, r.val, []⟩) (by simp [results, Try.results71, go_sem, Res.raw, Res.flat, Res.fail, r0, r1, r2, r3, hs0, hs1]) rfl ?_
              rw [PF.out]
              exact (rfin H.out BB.out RE1.out ⟨0, r.stamp, r.val, []⟩ rfl _ _ _ _).alloc _
            · have q1 : (test == 0) = false := by simpa using h0
              have q1' : (test != 0) = true := by simpa using h0
              have hts : test = r.stamp := by omega
              subst hts
              clear h1
              go_wp2_with fail
              refine bodyPost_ret (v := Res.flat ⟨0, r.stamp, r.val, []⟩) (by simp [results, Try.results71, go_sem, Res.raw, Res.flat, Res.fail, r0, r1, r2, r3, hs0, hs1]) rfl ?_
              rw [PF.out]
              exact (rfin H.out BB.out RE1.out ⟨0, r.stamp, r.val, []⟩ rfl _ _ _ _).alloc _
    · have hw : (kind = 1 ∧ test = 0) ∨ kind = 2 ∨ kind = 3 := by omega
      have k4 : (kind == 4) = false := by simp; omega
      have k5 : (kind == 5) = false := by simp; omega
      have k4' : (kind != 4) = true := by simp; omega
      have k5' : (kind != 5) = true := by simp; omega
      have PE : Asd (p = rwriteP l ⟨kind, key, val, stamp, test, most⟩) := ⟨by
        rw [← P.out, WE.out hw]
        simp only [oneP]
        rw [if_neg h6, if_neg h45]⟩
      clear hw WE AT hkind h45
      go_enter Try.func71, Try.ntmps71
      go_wp2_with fail
      generalize ((w.alloc (.cells #[.int .i64 kind, .string key, .string val, .int .i64 stamp, .int .i64 test, .int .i64 most] 64)).alloc (.cells #[.int .i64 0, .int .i64 0, .string ⟨#[]⟩, .slice none 0 0] 47)) = w0 at *
      refine (WR.out _ B0.out).mono ?_
      rintro e w3 ⟨rfl, hg3, A3, c3, hT3, hfr3⟩
      have hn2 : w.heap.size + 1 ≠ g := by omega
      have q := (gb_keep hg3 (b := w.heap.size + 1) (by rw [Z0.out]; omega) hn2).trans E1.out
      have hs3 : w.heap.size + 1 < w3.heap.size := by have h1 := hg3.size; have h2 := Z0.out; omega
      have r0 : w3.cell? ⟨w.heap.size + 1, 0, none⟩ = some (.int .i64 0) := cell_of_row _ _ 0 _ _ _ q
      have r1 : w3.cell? ⟨w.heap.size + 1, 1, none⟩ = some (.int .i64 0) := cell_of_row _ _ 1 _ _ _ q
      have r2 : w3.cell? ⟨w.heap.size + 1, 2, none⟩ = some (.string ⟨#[]⟩) := cell_of_row _ _ 2 _ _ _ q
      have r3 : w3.cell? ⟨w.heap.size + 1, 3, none⟩ = some (.slice none 0 0) := cell_of_row _ _ 3 _ _ _ q
      have f0 : ∀ o, w3.frozen? ⟨w.heap.size + 1, o, none⟩ = false := fun o => frozen_of_row _ _ o _ _ q
      have FIN : Asd (∀ u0 u1 u2 u3, ROnePost base w A g p (.returned p.2.flat) ((((w3.setCell ⟨w.heap.size + 1, 0, none⟩ u0).setCell ⟨w.heap.size + 1, 1, none⟩ u1).setCell ⟨w.heap.size + 1, 2, none⟩ u2).setCell ⟨w.heap.size + 1, 3, none⟩ u3)) := ⟨fun u0 u1 u2 u3 => by
        rw [PE.out]
        refine ROnePost.flat ⟨rfl, ?_, A3, c3, ?_, Fr.mono hfr3 B0.out.size⟩ WN.out
        · exact gb_set (gb_set (gb_set (gb_set (gb_trans (gb_below B0.out _) hg3) (by simp) _) (by simp) _) (by simp) _) (by simp) _
        · exact RTab.set4 hT3 ⟨_, _, q⟩ (by decide) (by decide) (by have := H.out.ge; omega) _ _ _ _⟩
      clear hg3 hT3 hfr3 q WR WN
      rw [← PE.out]
      unfold Res.flat
      go_wp2_with fail
      refine bodyPost_ret (v := p.2.flat) (by simp [results, Try.results71, go_sem, Res.raw, Res.flat, Res.fail, r0, r1, r2, r3, hs3]) rfl ?_
      exact FIN.out _ _ _ _
end Go.Proofs.Ytlhjfblpinpjiaa

/- CheckSees: the walk. -/
import Derived.Test.YtlhjfblpinpjiaaG8
import Derived.Deep.RegionHeld3
import Derived.BigRegion
import Derived.BigQuiet
set_option linter.unusedVariables false
set_option linter.unusedSimpArgs false
namespace Go.Proofs.Ytlhjfblpinpjiaa
open Go.RowKit

theorem fresh_ints {w : World} (own : Nat) (h : own ≤ w.heap.size) : (w.alloc (.cells #[] 3)).ownsRow own 3 1 (.slice (some ⟨w.heap.size, 0, none⟩) 0 0) 0 [] := World.ownsRow_made w #[] 0 h (by simp [maxLen]) (by simp)
theorem own_drew {w : World} {b e k n : Nat} {v : Value} {xs : List Value} (h : w.ownsRow b e k v n xs) : w.drew.ownsRow b e k v n xs := h
theorem rd_drew {base T k n c : Nat} {w : World} {A : Option Addr} {xs : List Value} (h : Rd base T w k A n c xs) : Rd base T w.drew k A n c xs := h.below (drew_below w)
theorem intCs_app (l r : List Int) : intCs l ++ intCs r = intCs (l ++ r) := by simp [intCs]
theorem intCs_map (l : List Int) : intCs l = l.map (fun v => (.int .i64 v : Value)) := by
  unfold intCs
  induction l with
  | nil => rfl
  | cons x l ih => rw [List.flatMap_cons, ih]; rfl
theorem intCs_set (l : List Int) (k : Nat) (v : Int) : (intCs l).set k (.int .i64 v) = intCs (l.set k v) := by rw [intCs_map, intCs_map, List.map_set]
theorem intCs_take (l : List Int) (k : Nat) : (intCs l).take k = intCs (l.take k) := by
  have := flat_take intEnc 1 (fun _ => rfl) l k
  rwa [Nat.mul_one] at this

theorem Ints.suf {base : Nat} {w : World} {b off n c : Nat} (h : Ints base w (some ⟨b, off, none⟩) n c (rangeI n)) {k : Nat} (hk : k < n) : Rd base 3 w 1 (if c = k + 1 then some ⟨b, off, none⟩ else some ⟨b, off + (k + 1), none⟩) (n - (k + 1)) (c - (k + 1)) (intCs ((rangeI n).drop (k + 1))) := by
  have h1 := h.rd.cut (lo := k + 1) (hi := n) (c' := c) hk (Nat.le_refl _) h.rd.cap (Nat.le_refl _)
  have e1 : ((intCs (rangeI n)).drop ((k + 1) * 1)).take ((n - (k + 1)) * 1) = intCs ((rangeI n).drop (k + 1)) := by
    have h2 := flat_drop intEnc 1 (fun _ => rfl) (rangeI n) (k + 1)
    unfold intCs
    rw [h2, List.take_of_length_le (by rw [flat_len intEnc 1 (fun _ => rfl), List.length_drop, rangeI_len]; omega)]
  have e2 : ((intCs (rangeI n)).drop ((k + 1) * 1)).take ((n - (k + 1)) * 1) = intCs ((rangeI n).drop (k + 1)) := e1
  have h2 : Rd base 3 w 1 (if c = k + 1 then some (⟨b, off, none⟩ : Addr) else Option.map (fun (x : Addr) => x.add ((k + 1) * 1)) (some ⟨b, off, none⟩)) (n - (k + 1)) (c - (k + 1)) (intCs ((rangeI n).drop (k + 1))) := by
    rw [← e2]
    exact h1
  simpa [add_lit'] using h2
theorem own_one {w : World} {cs : Array Value} {e size : Nat} (own : Nat) (hb : own ≤ w.heap.size) (hs : cs.size = size) : (w.alloc (.cells cs e)).ownsRow own e size (.slice (some ⟨w.heap.size, 0, none⟩) 1 1) 1 cs.toList :=
  ⟨by simp [hs], .inr ⟨w.heap.size, 1, cs, rfl, hb, heap_alloc_new w _, Nat.le_refl _, by simp [maxLen], by simp [hs], List.take_of_length_le (by simp [hs])⟩⟩
/-- The reply's five cells turned. -/
theorem reply_put {w : World} {b n c g : Nat} {hs : List CallR} (h : w.ownsRow b 44 10 (.slice (some ⟨g, 0, none⟩) n c) n (hs.flatMap CallR.enc)) {k : Nat} (hk : k < hs.length) (hn : hs.length = n) (u5 u6 : Int) (A : Option Addr) (rn rc : Nat) (a co : Int) (res : List Res) (rr : List RRes) :
    (((((w.setCell ⟨g, k * 10 + 5, none⟩ (.int .i64 u5)).setCell ⟨g, k * 10 + 5 + 1, none⟩ (.int .i64 u6)).setCell ⟨g, k * 10 + 5 + 2, none⟩ (.slice A rn rc)).setCell ⟨g, k * 10 + 5 + 3, none⟩ (.int .i64 a)).setCell ⟨g, k * 10 + 5 + 4, none⟩ (.int .i64 co)).ownsRow b 44 10 (.slice (some ⟨g, 0, none⟩) n c) n ((hs.set k { hs[k] with pc := u5, ps := u6, rA := A, rn := rn, rc := rc, at_ := a, code := co, res := res, rr := rr }).flatMap CallR.enc) ∧
      w.grownBy (((((w.setCell ⟨g, k * 10 + 5, none⟩ (.int .i64 u5)).setCell ⟨g, k * 10 + 5 + 1, none⟩ (.int .i64 u6)).setCell ⟨g, k * 10 + 5 + 2, none⟩ (.slice A rn rc)).setCell ⟨g, k * 10 + 5 + 3, none⟩ (.int .i64 a)).setCell ⟨g, k * 10 + 5 + 4, none⟩ (.int .i64 co)) (some g) := by
  have step : ∀ {W : World} {l : List CallR} (y : CallR) (j : Nat) (u : Value) (hl : k < l.length), l.length = n → j < 10 → W.ownsRow b 44 10 (.slice (some ⟨g, 0, none⟩) n c) n (l.flatMap CallR.enc) → y.enc = (l[k].enc).set j u →
      (W.setCell ⟨g, k * 10 + j, none⟩ u).ownsRow b 44 10 (.slice (some ⟨g, 0, none⟩) n c) n ((l.set k y).flatMap CallR.enc) := fun y j u hl hln hj ho hy => by
    have := own_put_ ho (j := k * 10 + j) (by omega) u
    rwa [flat_set hl hj hy] at this
  have h5 := step { hs[k] with pc := u5 } 5 (.int .i64 u5) hk hn (by omega) h rfl
  have h6 := step { hs[k] with pc := u5, ps := u6 } 6 (.int .i64 u6) (by simpa using hk) (by simpa using hn) (by omega) h5 (by simp [CallR.enc])
  rw [List.set_set] at h6
  have h7 := step { hs[k] with pc := u5, ps := u6, rA := A, rn := rn, rc := rc } 7 (.slice A rn rc) (by simpa using hk) (by simpa using hn) (by omega) h6 (by simp [CallR.enc])
  rw [List.set_set] at h7
  have h8 := step { hs[k] with pc := u5, ps := u6, rA := A, rn := rn, rc := rc, at_ := a } 8 (.int .i64 a) (by simpa using hk) (by simpa using hn) (by omega) h7 (by simp [CallR.enc])
  rw [List.set_set] at h8
  have h9 := step { hs[k] with pc := u5, ps := u6, rA := A, rn := rn, rc := rc, at_ := a, code := co, res := res, rr := rr } 9 (.int .i64 co) (by simpa using hk) (by simpa using hn) (by omega) h8 (by simp [CallR.enc])
  rw [List.set_set] at h9
  exact ⟨h9, gb_trans (gb_trans (gb_trans (gb_trans (gb_cell _ _ _ _) (gb_cell _ _ _ _)) (gb_cell _ _ _ _)) (gb_cell _ _ _ _)) (gb_cell _ _ _ _)⟩
def oneR : RRes := ⟨0, 1, ⟨#[]⟩, none, 0, 0⟩
set_option maxHeartbeats 16000000 in
set_option maxRecDepth 100000 in
theorem Sees_walk {w : World} {A : Option Addr} {n c : Nat} {ts : List TurnR} (hh : Turns w.heap.size w A n c ts) (at_ : Int) :
    Calls Try.prog 4 #[.slice A n c, .int .i64 at_] w fun e w' => e = .returned (.bool true) ∧ Below w.heap.size w w' := by
  have H := Asd.mk (fun W (h : Below w.heap.size w W) => hh.below h)
  clear hh
  go_enter Try.func4, Try.ntmps4
  go_wp2_with fail
  refine (works_calls w).mono ?_
  rintro e w1 ⟨rfl, hb1⟩
  have B1 := Asd.mk hb1
  clear hb1
  go_wp2_with fail
  refine (made_calls (H.out w1 B1.out) B1.out.size).mono ?_
  rintro e w2 ⟨B, m, d, hs, rfl, hO2, hI2, hBu, hb2⟩
  have hlen : hs.length = m := by
    have h1 := hO2.1
    rw [flat_len CallR.enc 10 (fun _ => rfl)] at h1
    omega
  have hm40 : m ≤ 40 := by have := hBu.len; omega
  have B2 := Asd.mk (B1.out.trans (hb2.mono B1.out.size))
  have HI2 := Asd.mk (own_hist hO2 hI2 (by omega))
  have FA := Asd.mk hBu.fair
  have LN := Asd.mk hlen
  clear hO2 hI2 hBu hb2 hlen B1 H
  go_wp2_with fail
  refine (numbers_calls w.heap.size m (by omega) w2 B2.out.size).mono ?_
  rintro e w3 ⟨C, cc, rfl, hO3, hb3⟩
  have hI3 : Ints w.heap.size w3 C m cc (rangeI m) := own_ints hO3 (by omega)
  have HH : Asd (∀ W, Below w3.heap.size w3 W → Hist w.heap.size W B m d hs) := ⟨fun W h => (HI2.out.below hb3).below h⟩
  have II : Asd (∀ W, Below w3.heap.size w3 W → Ints w.heap.size W C m cc (rangeI m)) := ⟨fun W h => hI3.below h⟩
  have BB : Asd (∀ W, Below w3.heap.size w3 W → Below w.heap.size w W) := ⟨fun W h => (B2.out.trans (hb3.mono B2.out.size)).trans (h.mono (Nat.le_trans B2.out.size hb3.size))⟩
  have Z3 : Asd (w.heap.size ≤ w3.heap.size) := ⟨Nat.le_trans B2.out.size hb3.size⟩
  have B0 : Asd (Below w3.heap.size w3 w3) := ⟨Below.refl _ _⟩
  clear hO3 hb3 hI3 B2 HI2
  by_cases hm0 : m = 0
  · subst hm0
    go_wp2_with fail
    go_ret
    exact ⟨rfl, BB.out _ B0.out⟩
  · obtain ⟨k, hk, hkm⟩ : ∃ k : Nat, amongP at_ m = (k : Int) ∧ k < m := by
      have := amongP_range at_ (n := (m : Int)) (by omega)
      exact ⟨(amongP at_ m).toNat, by omega, by omega⟩
    have ca := fun W => among_calls at_ m (by omega) (by omega) W
    rw [hk] at ca
    have CA := Asd.mk ca
    have KH : Asd (k < hs.length) := ⟨by have := LN.out; omega⟩
    clear ca hk
    have hm0' : ¬ (m : Int) = 0 := by omega
    go_wp2_with fail
    refine (CA.out _).mono ?_
    rintro e w4 ⟨rfl, hw4⟩
    have hw4' := hw4.symm
    subst hw4'
    go_wp2_with (first
      | (at_builtin; (refine wpList_append_mine (base := w.heap.size) (own := w3.heap.size) (v := .slice (some ⟨w3.heap.size, 0, none⟩) 0 0) (n := 0) (m := m) (xs := []) (ys := intCs (rangeI m)) rfl (.tmp 26) (.tmp 27) 24 rfl elt_i rfl rfl (fresh_ints _ (Nat.le_refl _)) ((II.out _ B0.out).rd.alloc _) (intCs_one _) (by unfold maxLen; omega) (by omega) (by simp) ?_; intro v5 w5 O5' G5'; rw [Nat.zero_add, List.nil_append] at O5'; obtain ⟨A5, c5, rfl, _⟩ := Rd.of_own (base := w.heap.size) O5'; have O5 := Asd.mk O5'; have B5 := Asd.mk ((B0.out.alloc (Nat.le_refl _) (.cells #[] 3)).grown G5' (by simp) (fun i hi => by simp [Value.ownBlock] at hi; subst hi; exact Nat.le_refl _)); clear O5' G5'))
      | (at_builtin; (refine wpList_append_mine (base := w.heap.size) (own := w3.heap.size) (v := .slice A5 m c5) (n := m) (m := 1) (xs := intCs (rangeI m)) (ys := intCs [(k : Int)]) rfl (.tmp 28) (.tmp 30) 24 rfl elt_i rfl rfl (O5.out.alloc _) (Rd.new_ rfl rfl) (intCs_one _) (by unfold maxLen; omega) (by omega) (by have := B5.out.size; simp; omega) ?_; intro v6 w6 O6' G6'; obtain ⟨A6, c6, rfl, r6⟩ := Rd.of_own (base := w.heap.size) O6'; rw [intCs_app] at r6; have R6 := Asd.mk r6; have B6 := Asd.mk ((B5.out.alloc B5.out.size (.cells #[.int .i64 k] 3)).grown G6' (by have := B5.out.size; simp; omega) (fun i hi => (O5.out.lt i hi).1)); clear O6' G6' r6)))
    have jc := Judge_calls (HH.out w6 B6.out) (⟨R6.out, by omega⟩ : Ints w.heap.size w6 A6 (m + 1) c6 (rangeI m ++ [(k : Int)])) (Nat.le_trans Z3.out B6.out.size)
    rw [← LN.out, sees_dup FA.out KH.out, LN.out] at jc
    refine jc.mono ?_
    clear jc
    rintro e w7 ⟨rfl, hb7⟩
    have B7 := Asd.mk (B6.out.trans (hb7.mono B6.out.size))
    clear hb7 O5 R6 B5 B6
    obtain ⟨b, off, rfl, hbl, hil, hcs⟩ := (HH.out w7 B7.out).rd.at_enc (enc := CallR.enc) (fun _ => rfl) (by omega) hkm
    have hcc : k < d := Nat.lt_of_lt_of_le hkm (HH.out w7 B7.out).rd.cap
    have c1 := hcs 1 _ rfl
    have HBL := Asd.mk (And.intro hbl hcs)
    clear hcs hbl
    by_cases ht : hs[k].told = 0
    · rw [ht] at c1
      go_wp2_with fail
      go_ret
      exact ⟨rfl, BB.out _ B7.out⟩
    · have HT := Asd.mk ht
      have ht2 : (hs[k].told == 0) = false := by simpa using ht
      generalize htd : hs[k].told = td at c1 ht ht2
      have TD := Asd.mk htd
      clear htd
      have hw1 : IntKind.i64.wrap ((k : Int) + 1) = (k : Int) + 1 := IntWalk.i64_in _ (by omega)
      have hccm : m ≤ cc := (II.out w7 B7.out).rd.cap
      have hs1 : (0 : Int) ≤ (k : Int) ∧ (k : Int) ≤ (cc : Int) ∧ (k : Int) ≤ (m : Int) ∧ (0 : Int) ≤ (k : Int) + 1 ∧ (k : Int) + 1 ≤ (cc : Int) ∧ (k : Int) + 1 ≤ (m : Int) ∧ (m : Int) ≤ (cc : Int) := by omega
      have hs2 : k ≤ cc ∧ k ≤ m ∧ k + 1 ≤ cc ∧ k + 1 ≤ m ∧ m ≤ cc := by omega
      obtain ⟨p, po, hC⟩ : ∃ p po, C = some ⟨p, po, none⟩ := by
        obtain ⟨p, po, e, _⟩ := (II.out w7 B7.out).at_ hkm
        exact ⟨p, po, e⟩
      subst hC
      go_upto_region 12 with fail
      have RP : Asd (∀ W, Below w3.heap.size w3 W → Rd w.heap.size 3 W 1 (some ⟨p, po, none⟩) k cc (intCs (rangeI k))) := ⟨fun W h => ((II.out W h).pre (Nat.le_of_lt hkm)).rd⟩
      have RS : Asd (∀ W, Below w3.heap.size w3 W → Rd w.heap.size 3 W 1 (if cc = k + 1 then some (⟨p, po, none⟩ : Addr) else some ⟨p, po + (k + 1), none⟩) (m - (k + 1)) (cc - (k + 1)) (intCs ((rangeI m).drop (k + 1)))) := ⟨fun W h => (II.out W h).suf hkm⟩
      have JC : Asd (∀ W (A' : Option Addr) (c' : Nat), Below w3.heap.size w3 W → Rd w.heap.size 3 W 1 A' (k + (m - (k + 1))) c' (intCs (rangeI k ++ (rangeI m).drop (k + 1))) → Calls Try.prog 15 #[.slice (some ⟨b, off, none⟩) m d, .slice A' (k + (m - (k + 1))) c'] W fun e w' => e = .returned (.agg #[.int .i64 k, .int .i64 4]) ∧ Below W.heap.size W w') := ⟨fun W A' c' hW hr => by
        have jc := Judge_calls (HH.out W hW) (⟨hr, by omega⟩ : Ints w.heap.size W A' _ c' _) (Nat.le_trans Z3.out hW.size)
        have so := sees_out FA.out KH.out HT.out
        unfold cutO at so
        rw [LN.out, rangeI_take m k (Nat.le_of_lt hkm)] at so
        rwa [so] at jc⟩
      have al7 : Asd (Below w3.heap.size w3 (w7.alloc (.cells #[] 3)).drew) := ⟨(B7.out.alloc B7.out.size _).drew⟩
      have JD : Asd (cc = k + 1 → ∀ W (A' : Option Addr) (c' : Nat), Below w3.heap.size w3 W → Rd w.heap.size 3 W 1 A' k c' (intCs (rangeI k)) → Calls Try.prog 15 #[.slice (some ⟨b, off, none⟩) m d, .slice A' k c'] W fun e w' => e = .returned (.agg #[.int .i64 k, .int .i64 4]) ∧ Below W.heap.size W w') := ⟨fun hck W A' c' hW hr => by
        have hm1 : m = k + 1 := by omega
        have jc := JC.out W A' c' hW
        have h0 : m - (k + 1) = 0 := by omega
        rw [h0, hm1, List.drop_of_length_le (by rw [rangeI_len]; omega), List.append_nil, Nat.add_zero] at jc
        rw [hm1]
        exact jc hr⟩
      have HK : Asd (cc = k + 1 ∨ ¬ cc = k + 1) := ⟨Decidable.em _⟩
      go_cut [57] from 43 (fun s57 wc => s57 = .bool false ∧ Asd (Below w3.heap.size w3 wc))
      case first =>
        rcases HK.out with hck | hck
        · have JD' := Asd.mk (JD.out hck)
          clear JD RS JC
          have JD := JD'
          subst hck
          obtain rfl : m = k + 1 := by omega
          have hz1 : (k : Int) ≤ (k : Int) + 1 := by omega
          have hz2 : (k : Int) + 1 ≤ (k : Int) + 1 := by omega
          have hz3 : ¬ ((k : Int) + 1 < 0) := by omega
          have hz4 : ¬ ((k : Int) < 0) := by omega
          go_region_held3 (fun _ => True) (trivial) (first
            | (refine step_append_mine (base := w.heap.size) (own := w7.heap.size) (n := 0) (m := k) (v := .slice (some ⟨w7.heap.size, 0, none⟩) 0 0) (xs := []) (ys := intCs (rangeI k)) rfl (.tmp 44) (.tmp 47) 24 rfl elt_i rfl rfl (own_drew (fresh_ints _ (Nat.le_refl _))) (RP.out _ al7.out) (intCs_one _) (by simp only [maxLen]; omega) (by omega) (by simp) ?_
               intro v8 w8 O8' G8'
               rw [Nat.zero_add, List.nil_append] at O8'
               obtain ⟨A8, c8, rfl, _⟩ := Rd.of_own (base := w.heap.size) O8'
               have O8 := Asd.mk O8'
               have B8 := Asd.mk (al7.out.grown G8' (Nat.le_trans B7.out.size (by simp)) (fun i hi => by simp [Value.ownBlock] at hi; subst hi; exact B7.out.size))
               have Z8 : Asd (w7.heap.size ≤ w8.heap.size) := ⟨Nat.le_trans (by simp) G8'.size⟩
               clear O8' G8')
            | (refine step_append_mine (base := w.heap.size) (own := w7.heap.size) (n := k) (m := 0) (v := .slice A8 k c8) (xs := intCs (rangeI k)) (ys := []) rfl (.tmp 48) (.tmp 52) 24 rfl elt_i rfl rfl O8.out (Rd.empty_ _ (by simp)) (by simp) (by simp only [maxLen]; omega) (by omega) Z8.out ?_
               intro v9 w9 O9' G9'
               rw [Nat.add_zero, List.append_nil] at O9'
               obtain ⟨A9, c9, rfl, r9⟩ := Rd.of_own (base := w.heap.size) O9'
               have R9 := Asd.mk r9
               have B9 := Asd.mk (B8.out.grown G9' B8.out.size (fun i hi => Nat.le_trans B7.out.size (O8.out.lt i hi).1))
               clear O9' G9' r9)
            | (go_at_call 15
               refine (JD.out _ _ _ B9.out R9.out).mono ?_
               rintro e w10 ⟨rfl, hb10⟩
               have B10 := Asd.mk (B9.out.trans (hb10.mono B9.out.size))
               clear hb10))
          all_goals
            go_wp2_with fail
            go_meet
            case rel => exact ⟨rfl, B10⟩
        · rw [if_neg hck] at RS
          go_region_held3 (fun _ => True) (trivial) (first
            | (refine step_append_mine (base := w.heap.size) (own := w7.heap.size) (n := 0) (m := k) (v := .slice (some ⟨w7.heap.size, 0, none⟩) 0 0) (xs := []) (ys := intCs (rangeI k)) rfl (.tmp 44) (.tmp 47) 24 rfl elt_i rfl rfl (own_drew (fresh_ints _ (Nat.le_refl _))) (RP.out _ al7.out) (intCs_one _) (by simp only [maxLen]; omega) (by omega) (by simp) ?_
               intro v8 w8 O8' G8'
               rw [Nat.zero_add, List.nil_append] at O8'
               obtain ⟨A8, c8, rfl, _⟩ := Rd.of_own (base := w.heap.size) O8'
               have O8 := Asd.mk O8'
               have B8 := Asd.mk (al7.out.grown G8' (Nat.le_trans B7.out.size (by simp)) (fun i hi => by simp [Value.ownBlock] at hi; subst hi; exact B7.out.size))
               have Z8 : Asd (w7.heap.size ≤ w8.heap.size) := ⟨Nat.le_trans (by simp) G8'.size⟩
               clear O8' G8')
            | (refine step_append_mine (base := w.heap.size) (own := w7.heap.size) (n := k) (m := m - (k + 1)) (v := .slice A8 k c8) (xs := intCs (rangeI k)) (ys := intCs ((rangeI m).drop (k + 1))) rfl (.tmp 48) (.tmp 52) 24 rfl elt_i rfl rfl O8.out (RS.out _ B8.out) (intCs_one _) (by simp only [maxLen]; omega) (by omega) Z8.out ?_
               intro v9 w9 O9' G9'
               obtain ⟨A9, c9, rfl, r9⟩ := Rd.of_own (base := w.heap.size) O9'
               rw [intCs_app] at r9
               have R9 := Asd.mk r9
               have B9 := Asd.mk (B8.out.grown G9' B8.out.size (fun i hi => Nat.le_trans B7.out.size (O8.out.lt i hi).1))
               clear O9' G9' r9)
            | (go_at_call 15
               refine (JC.out _ _ _ B9.out R9.out).mono ?_
               rintro e w10 ⟨rfl, hb10⟩
               have B10 := Asd.mk (B9.out.trans (hb10.mono B9.out.size))
               clear hb10))
          all_goals
            go_wp2_with fail
            go_meet
            case rel => exact ⟨rfl, B10⟩
      case rest =>
        obtain ⟨rfl, BC⟩ := hcut
        clear JC JD RS RP al7 HK c1 hw4
        have HR := Asd.mk (HH.out wc BC.out).rd
        go_wp2_with (at_builtin; refine wpList_append_mine (base := w.heap.size) (own := w3.heap.size) (v := .slice (some ⟨wc.heap.size, 0, none⟩) 0 0) (n := 0) (xs := []) rfl (.tmp 58) (.tmp 59) 22 rfl elt_call rfl rfl (World.ownsRow_made wc #[] 0 BC.out.size (by simp [maxLen]) (by simp)) (HR.out.alloc _) (calls_one hs) (by simp only [maxLen]; omega) (by omega) (by have := BC.out.size; simp; omega) ?_; intro v' w8 hO8 hG8; rw [Nat.zero_add] at hO8; rw [List.nil_append] at hO8; obtain ⟨L, lc, rfl, hR8⟩ := Rd.of_own (base := w.heap.size) hO8)
        have B8 : Asd (Below w3.heap.size w3 w8) := ⟨(BC.out.alloc BC.out.size _).grown hG8 (by have := BC.out.size; simp; omega) (fun j hj => by simp [Value.ownBlock] at hj; subst hj; exact BC.out.size)⟩
        have O8 := Asd.mk hO8
        obtain ⟨lb, lcap, hv, hlb, hlbl⟩ := O8.out.form (by omega)
        injection hv with hv1 _ hv2
        subst hv1 hv2
        have hlc : k < lc := Nat.lt_of_lt_of_le hkm hR8.cap
        clear hO8 hG8 hR8 HR
        have hlf := own_frozen_ O8.out
        obtain ⟨hb8, hcs8⟩ : b < w8.heap.size ∧ ∀ (j : Nat) (v : Value), (hs[k].enc)[j]? = some v → w8.cell? ⟨b, off + k * 10 + j, none⟩ = some v := by
          obtain ⟨b', off', e', hbl, hil', hcs'⟩ := (HH.out w8 B8.out).rd.at_enc (enc := CallR.enc) (fun _ => rfl) (by omega) hkm
          injection e' with e'
          injection e' with e1 e2 _
          subst e1 e2
          exact ⟨hbl, hcs'⟩
        have c7 := hcs8 7 _ rfl
        have c8 := hcs8 8 _ rfl
        have c9 := hcs8 9 _ rfl
        have INS := Asd.mk (fun W h => (HH.out W h).ins _ (List.getElem_mem hil))
        have RN : Asd (hs[k].rn ≤ 32) := ⟨by
          have h0 := (HH.out w8 B8.out).ins _ (List.getElem_mem hil)
          have h1 := h0.rdr.count (enc := RRes.enc) (fun _ => rfl) (by omega)
          have h2 := All2.len h0.rins
          have h3 := (FA.out.at_ k KH.out).said (by have := (FA.out.at_ k KH.out).t; have := HT.out; omega)
          have h4 := (FA.out.at_ k KH.out).req
          unfold CallR.told_ CallR.said at h3
          simp only [Bool.and_eq_true, decide_eq_true_eq] at h3
          have h5 := doP_res_len (rowsP0 (hs.take k)) hs[k].ops
          unfold reqOk at h4
          simp only [Bool.and_eq_true, decide_eq_true_eq] at h4
          rw [h3.2] at h5
          omega⟩
        have hbw : b < w3.heap.size := by
          obtain ⟨b', off', e', hbl, _⟩ := (HH.out w3 B0.out).rd.at_enc (enc := CallR.enc) (fun _ => rfl) (by omega) hkm
          injection e' with e'
          injection e' with e1 e2 _
          rw [e1]
          exact hbl
        have hne1 : b ≠ lb := by omega
        have hne2 : lb ≠ b := by omega
        obtain ⟨y, hy⟩ : ∃ y, y = hs[k] := ⟨_, rfl⟩
        rw [← hy] at c7 c8 c9 RN TD HT
        have HY := Asd.mk hy
        clear hcs8 hy
        have hrn : y.rn ≤ 32 := RN.out
        have y5 := own_cells_ O8.out ((flat_at KH.out (j := 5) (by omega)).trans rfl)
        have y6 : w8.cell? ⟨lb, k * 10 + 5 + 1, none⟩ = _ := own_cells_ O8.out ((flat_at KH.out (j := 6) (by omega)).trans rfl)
        have y7 : w8.cell? ⟨lb, k * 10 + 5 + 2, none⟩ = _ := own_cells_ O8.out ((flat_at KH.out (j := 7) (by omega)).trans rfl)
        have y8 : w8.cell? ⟨lb, k * 10 + 5 + 3, none⟩ = _ := own_cells_ O8.out ((flat_at KH.out (j := 8) (by omega)).trans rfl)
        have y9 : w8.cell? ⟨lb, k * 10 + 5 + 4, none⟩ = _ := own_cells_ O8.out ((flat_at KH.out (j := 9) (by omega)).trans rfl)
        have YC := Asd.mk (And.intro y5 (And.intro y6 (And.intro y7 (And.intro y8 y9))))
        clear y5 y6 y7 y8 y9
        have YI : Asd (∀ W, Below w3.heap.size w3 W → CallIn w.heap.size W y) := ⟨fun W h => by rw [HY.out]; exact INS.out W h⟩
        have al8 : Asd (Below w3.heap.size w3 (w8.alloc (.cells #[.int .i64 0, .int .i64 1, .string ⟨#[]⟩, .slice none 0 0] 47)).drew) := ⟨(B8.out.alloc B8.out.size _).drew⟩
        have Z8 : Asd (w.heap.size ≤ w8.heap.size) := ⟨Nat.le_trans Z3.out B8.out.size⟩
        have nn7 := World.new_ne w8 ⟨b, off + k * 10 + 7, none⟩ c7
        have nn8 := World.new_ne w8 ⟨b, off + k * 10 + 8, none⟩ c8
        have nn9 := World.new_ne w8 ⟨b, off + k * 10 + 9, none⟩ c9
        go_upto_region 15 with fail
        go_region_held3 (fun w' => w'.cell? ⟨b, off + k * 10 + 7, none⟩ = some (.slice y.rA y.rn y.rc) ∧ w'.cell? ⟨b, off + k * 10 + 8, none⟩ = some (.int .i64 y.at_) ∧ w'.cell? ⟨b, off + k * 10 + 9, none⟩ = some (.int .i64 y.code)) (go_keep) (first
          | (refine step_append_mine (base := w.heap.size) (own := w8.heap.size) (n := 1) (m := y.rn) (v := .slice (some ⟨w8.heap.size, 0, none⟩) 1 1) (xs := resCells [oneR]) (ys := resCells y.rr) rfl (.tmp 64) (.tmp 70) 40 rfl elt_res rfl rfl (own_drew (own_one _ (Nat.le_refl _) rfl)) ((YI.out _ al8.out).rdr) (res_one _) (by simp only [maxLen]; omega) (by omega) (by simp) ?_
             intro v9 w9 O9' G9'
             obtain ⟨A9, c9', rfl, r9⟩ := Rd.of_own (base := w.heap.size) O9'
             have R9 := Asd.mk r9
             have hb9 : Below w8.heap.size w8 w9 := ((((Below.refl w8.heap.size w8).alloc (Nat.le_refl _) _).drew).grown G9' (by simp) (fun i hi => by simp [Value.ownBlock] at hi; subst hi; exact Nat.le_refl _))
             have B9 := Asd.mk (B8.out.trans (hb9.mono B8.out.size))
             have H9 := Asd.mk hb9
             have x7 := (hb9.cell (p := ⟨b, off + k * 10 + 7, none⟩) hb8).trans c7
             have x8 := (hb9.cell (p := ⟨b, off + k * 10 + 8, none⟩) hb8).trans c8
             have x9 := (hb9.cell (p := ⟨b, off + k * 10 + 9, none⟩) hb8).trans c9
             have xf : ∀ i, w9.frozen? ⟨lb, i, none⟩ = false := fun i => (hb9.frozen (p := ⟨lb, i, none⟩) hlbl).trans (hlf i)
             have z5 := (hb9.cell (p := ⟨lb, k * 10 + 5, none⟩) hlbl).trans YC.out.1
             have z6 := (hb9.cell (p := ⟨lb, k * 10 + 5 + 1, none⟩) hlbl).trans YC.out.2.1
             have z7 := (hb9.cell (p := ⟨lb, k * 10 + 5 + 2, none⟩) hlbl).trans YC.out.2.2.1
             have z8 := (hb9.cell (p := ⟨lb, k * 10 + 5 + 3, none⟩) hlbl).trans YC.out.2.2.2.1
             have z9 := (hb9.cell (p := ⟨lb, k * 10 + 5 + 4, none⟩) hlbl).trans YC.out.2.2.2.2
             clear O9' G9' r9 hb9))
        have hn9 : (some lb : Option Nat) = (Value.slice (some ⟨lb, 0, none⟩) m lc).ownBlock := rfl
        have hO9 := O8.out.kept (gb_below H9.out none) (by cases (Value.slice (some ⟨lb, 0, none⟩) m lc).ownBlock <;> simp)
        obtain ⟨hO10, hG10⟩ := reply_put hO9 KH.out LN.out 0 0 A9 (1 + y.rn) c9' y.at_ y.code (⟨0, 1, ⟨#[]⟩, []⟩ :: hs[k].res) (oneR :: hs[k].rr)
        have hIT : ∀ j, some lb = some j → IsT w9 j 44 ∧ w.heap.size ≤ j := fun j hj => by
          injection hj with hj
          subst hj
          have := own_ist hO9 _ rfl
          exact ⟨this.1, Nat.le_trans Z3.out this.2⟩
        have hB10 := B9.out.grown hG10 B9.out.size (fun j hj => by injection hj with hj; subst hj; exact hlb)
        have hR10 := R9.out.grownR hG10 hIT (by decide)
        have hH10 := own_hist hO10 (base := w.heap.size) (fun x hx => by
          rcases List.mem_or_eq_of_mem_set hx with hx | rfl
          · exact (HH.out _ hB10).ins x hx
          · have h0 := INS.out _ hB10
            refine ⟨h0.rdo, h0.fits, h0.obig, ?_, ⟨⟨rfl, rfl, rfl, Rd.none_, by simp [oneR]⟩, h0.rins⟩, by simp only; omega⟩
            have e : resCells [oneR] ++ resCells y.rr = resCells (oneR :: hs[k].rr) := by rw [HY.out]; simp [resCells]
            rw [← e]
            exact hR10) (by omega)
        have jc := Judge_calls hH10 (II.out _ hB10) (Nat.le_trans Z3.out hB10.size)
        rw [← LN.out, sees_reply (y := { hs[k] with pc := 0, ps := 0, rA := A9, rn := 1 + y.rn, rc := c9', at_ := y.at_, code := y.code, res := ⟨0, 1, ⟨#[]⟩, []⟩ :: hs[k].res, rr := oneR :: hs[k].rr }) FA.out KH.out (by have := HT.out; rw [HY.out] at this; exact this) rfl rfl rfl rfl rfl rfl, LN.out] at jc
        have JC := Asd.mk jc
        have B10 := Asd.mk hB10
        clear jc hB10 hR10 hH10 hO10 hG10 hIT hO9 hn9 x7 x8 x9 xf z5 z6 z7 z8 z9 c7 c8 c9 nn7 nn8 nn9 H9 R9 B9 al8 O8 YC hlf
        generalize (((((w9.setCell ⟨lb, k * 10 + 5, none⟩ (.int .i64 0)).setCell ⟨lb, k * 10 + 5 + 1, none⟩ (.int .i64 0)).setCell ⟨lb, k * 10 + 5 + 2, none⟩ (.slice A9 (1 + y.rn) c9')).setCell ⟨lb, k * 10 + 5 + 3, none⟩ (.int .i64 y.at_)).setCell ⟨lb, k * 10 + 5 + 4, none⟩ (.int .i64 y.code)) = w10 at JC B10 ⊢
        go_wp2_with fail
        refine JC.out.mono ?_
        rintro e w11 ⟨rfl, hb11⟩
        have B11 := Asd.mk (B10.out.trans (hb11.mono B10.out.size))
        clear hb11 JC
        go_wp2_with fail
        go_loopw [9] (fun s9 wr => ∃ j : Nat, s9 = .int .i64 j ∧ k + 1 ≤ j ∧ j ≤ m ∧ Asd (Below w3.heap.size w3 wr)) (fun s9 _ => m - (intOf s9).toNat)
        case atStart => exact ⟨k + 1, by go_num, Nat.le_refl _, hkm, B11⟩
        case round =>
          obtain ⟨j, rfl, hkj, hjm, BW⟩ := hrel
          have HL := Asd.mk LN.out
          by_cases hlt : j < m
          · obtain ⟨b', off', e1', hbl', hil', hcj⟩ := (HH.out wr BW.out).rd.at_enc (enc := CallR.enc) (fun _ => rfl) (by omega) hlt
            injection e1' with e1'
            injection e1' with e2' e3' _
            subst e2' e3'
            obtain ⟨b', off', e1', hbl', hil2, hck⟩ := (HH.out wr BW.out).rd.at_enc (enc := CallR.enc) (fun _ => rfl) (by omega) hkm
            injection e1' with e1'
            injection e1' with e2' e3' _
            subst e2' e3'
            have c0 := hcj 0 _ rfl
            have c1 := hck 1 _ rfl
            rw [Nat.add_zero] at c0
            have hjd : j < d := by have := (HH.out wr BW.out).rd.cap; omega
            have TA : Asd (hs[k].told < hs[j].asked → ∃ a, judgeP hs (turnO hs.length k j) = (a, 250)) := ⟨fun h => ⟨_, Prod.ext rfl (sees_turn FA.out (by omega) hil' (by have := HT.out; rw [HY.out] at this; exact this) h)⟩⟩
            have TD2 : Asd (hs[k].told = td) := ⟨by rw [← HY.out]; exact TD.out⟩
            generalize hs[k].told = tk at c1 TA TD2
            have hs1' := hs1
            generalize hs[j].asked = aj at c0 TA
            clear hcj hck
            by_cases hta : tk < aj
            · have hta2 : decide (tk < aj) = true := decide_eq_true hta
              obtain ⟨a, ha⟩ := TA.out hta
              have HA := Asd.mk ha
              clear ha TA
              go_wp2_with fail
              go_quiet (fail)
              have BQ := Asd.mk (BW.out.trans (below_dn wr nq))
              generalize wr.drewN nq = w12 at BQ ⊢
              go_upto_region 23 with (at_builtin; refine wpList_append_mine (base := w.heap.size) (own := w3.heap.size) (v := .slice (some ⟨w12.heap.size, 0, none⟩) 0 0) (n := 0) (m := m) (xs := []) (ys := intCs (rangeI m)) rfl (.tmp 106) (.tmp 107) 24 rfl elt_i rfl rfl (fresh_ints _ BQ.out.size) ((II.out _ BQ.out).rd.alloc _) (intCs_one _) (by unfold maxLen; omega) (by omega) (by have := BQ.out.size; simp; omega) ?_; intro v13 w13 O13' G13'; rw [Nat.zero_add, List.nil_append] at O13'; obtain ⟨A13, c13, rfl, r13⟩ := Rd.of_own (base := w.heap.size) O13'; have hc13 := r13.cap; have O13 := Asd.mk O13'; have B13 := Asd.mk ((BQ.out.alloc BQ.out.size (.cells #[] 3)).grown G13' (by have := BQ.out.size; simp; omega) (fun i hi => by simp [Value.ownBlock] at hi; subst hi; exact BQ.out.size)); clear O13' G13' r13)
              obtain ⟨tb, tcap, hv, htb, htbl⟩ := O13.out.form (by omega)
              injection hv with hv1 _ hv2
              subst hv1 hv2
              have hlf := own_frozen_ O13.out
              have hil3 : k < (rangeI m).length := by rw [rangeI_len]; omega
              have hil4 : j < (rangeI m).length := by rw [rangeI_len]; omega
              have t1 : w13.cell? ⟨tb, k, none⟩ = some (.int .i64 (k : Int)) := own_cells_ O13.out (by rw [intCs_map, List.getElem?_map, List.getElem?_eq_getElem hil3, rangeI_get]; rfl)
              have t2 : w13.cell? ⟨tb, j, none⟩ = some (.int .i64 (j : Int)) := own_cells_ O13.out (by rw [intCs_map, List.getElem?_map, List.getElem?_eq_getElem hil4, rangeI_get]; rfl)
              have hkc : k < c13 := by omega
              have hjc : j < c13 := by omega
              have hkj2 : ¬ k = j := by omega
              have hkj3 : ¬ j = k := by omega
              go_upto_region 24 with fail
              have p1 := own_put_ (own_put_ O13.out (j := k) (by omega) (.int .i64 (j : Int))) (j := j) (by omega) (.int .i64 (k : Int))
              rw [intCs_set, intCs_set] at p1
              have B14 := Asd.mk ((B13.out.setCell (p := ⟨tb, k, none⟩) htb (.int .i64 (j : Int))).setCell (p := ⟨tb, j, none⟩) htb (.int .i64 (k : Int)))
              have I14 := Asd.mk (own_ints (base := w.heap.size) p1 (by omega))
              have jc := Judge_calls (HH.out _ B14.out) I14.out (Nat.le_trans Z3.out B14.out.size)
              have ha := HA.out
              unfold turnO at ha
              rw [LN.out] at ha
              rw [ha] at jc
              have JC := Asd.mk jc
              clear jc ha p1 I14 t1 t2 hlf
              generalize (w13.setCell ⟨tb, k, none⟩ (.int .i64 (j : Int))).setCell ⟨tb, j, none⟩ (.int .i64 (k : Int)) = w14 at B14 JC ⊢
              go_wp2_with fail
              refine JC.out.mono ?_
              rintro e w15 ⟨rfl, hb15⟩
              have B15 := Asd.mk (B14.out.trans (hb15.mono B14.out.size))
              clear hb15 JC
              have hfl := fun w => run_field_code a 250 w
              go_wp2_with fail
              go_ret
              exact ⟨rfl, BB.out _ B15.out⟩
            · have hta2 : decide (tk < aj) = false := decide_eq_false hta
              clear TA
              go_wp2_with fail
              go_quiet (fail)
              have BQ := Asd.mk (BW.out.trans (below_dn wr nq))
              generalize wr.drewN nq = w12 at BQ ⊢
              go_wp2_with fail
              go_roundw
              case measure => simp [intOf]; omega
              case rel => exact ⟨j + 1, by go_num, by omega, by omega, BQ⟩
          · obtain rfl : j = m := by omega
            go_wp2_with fail
            go_ret
            exact ⟨rfl, BB.out _ BW.out⟩
end Go.Proofs.Ytlhjfblpinpjiaa

/- The document's search. The document's Search. -/
import Derived.Test.YtlhjfblpinpjiaaF7
set_option linter.unusedVariables false
set_option linter.unusedSimpArgs false
namespace Go.Proofs.Ytlhjfblpinpjiaa
open Go.RowKit

def FromRPost (base : Nat) (w : World) (r : Option (List Int)) (e : Ending) (w' : World) : Prop :=
  Below w.heap.size w w' ∧ ((r = none ∧ e = .returned (.tuple #[.slice none 0 0, .bool false])) ∨ ∃ os B k cb, r = some os ∧ e = .returned (.tuple #[.slice B k cb, .bool true]) ∧ Ints base w' B k cb os)
theorem run_field_code (a b : Int) (w : World) : (Instr.field 35 (.agg #[.int .i64 a, .int .i64 b]) 1).run Try.prog w = .ok (.int .i64 b) w := by
  unfold Instr.field
  simp [Sem.run_bind, run_underlying (by kernel_rfl : Try.prog.underlying 35 = some (.struct (Try.prog.fieldsOf 35)))]
  kernel_rfl
/-- Is a number among the first k? -/
def inTake (os : List Int) (v : Int) (k : Nat) : Bool := decide (v ∈ os.take k)
theorem inTake_succ {os : List Int} {v : Int} {k : Nat} (hk : k < os.length) : inTake os v (k + 1) = (inTake os v k || decide (os[k] = v)) := by
  unfold inTake
  rw [List.take_succ_eq_append_getElem hk]
  rw [Bool.eq_iff_iff]
  simp only [decide_eq_true_eq, Bool.or_eq_true, List.mem_append, List.mem_singleton]
  exact ⟨fun h => h.imp id Eq.symm, fun h => h.imp id Eq.symm⟩

set_option maxHeartbeats 16000000 in
set_option maxRecDepth 100000 in
theorem fromR_step {base : Nat} {A : Option Addr} {n c : Nat} {hs : List CallR} (hn7 : n ≤ 7) (d : Nat)
    (ih : ∀ d', d = d' + 1 → ∀ (W : World) (B : Option Addr) (k cb : Nat) (os : List Int), Hist base W A n c hs → base ≤ W.heap.size → Ints base W B k cb os → freeN n os ≤ d' → k + d' ≤ 8 →
      Calls Try.prog 33 #[.slice A n c, .slice B k cb] W (FromRPost base W (findR hs d' os)))
    (W : World) (B : Option Addr) (k cb : Nat) (os : List Int) (hh : Hist base W A n c hs) (hbs : base ≤ W.heap.size) (ho : Ints base W B k cb os) (hfr : freeN n os ≤ d) (hkd : k + d ≤ 8) :
    Calls Try.prog 33 #[.slice A n c, .slice B k cb] W (FromRPost base W (findR hs d os)) := by
  have hk := ho.len
  have hnl := hh.len
  have jc := Asd.mk (RJudge_calls hh ho hbs)
  by_cases hz : judgeP hs os = (0, 0)
  · have Z := Asd.mk hz
    rw [findR_yes d hz]
    rw [hz] at jc
    have O := Asd.mk ho
    have hfl := fun w => run_field_code 0 0 w
    clear hz ih hh hbs ho hfr hk hnl
    go_enter Try.func33, Try.ntmps33
    go_wp2_with fail
    refine jc.out.mono ?_
    rintro e w1 ⟨rfl, hb1⟩
    have BB := Asd.mk hb1
    clear hb1
    go_wp2_with fail
    go_ret2
    exact ⟨BB.out, .inr ⟨os, B, k, cb, rfl, rfl, O.out.below BB.out⟩⟩
  · rw [findR_no d hz]
    have hcode := judgeP_code hz
    generalize judgeP hs os = f at jc hcode
    obtain ⟨fa, fc⟩ := f
    simp only at jc hcode
    have hcb : (fc == 0) = false := by simpa using hcode
    have O := Asd.mk (fun Wx (h : Below W.heap.size W Wx) => ho.below h)
    have IH : Asd (∀ d', d = d' + 1 → ∀ Wx, Below W.heap.size W Wx → ∀ (B : Option Addr) (k cb : Nat) (os : List Int), Ints base Wx B k cb os → freeN n os ≤ d' → k + d' ≤ 8 →
      Calls Try.prog 33 #[.slice A n c, .slice B k cb] Wx (FromRPost base Wx (findR hs d' os))) :=
      ⟨fun d' e Wx h B k cb os h1 h2 h3 => ih d' e Wx B k cb os (hh.below h) (Nat.le_trans hbs h.size) h1 h2 h3⟩
    have N := Asd.mk hnl
    have K := Asd.mk hk
    have FR := Asd.mk hfr
    have KD := Asd.mk hkd
    have hk8 : k ≤ 8 := by omega
    have hfl := fun w => run_field_code fa fc w
    clear ih hh hz ho hfr hk hnl hkd hbs
    generalize hr : tryI (stepR_ hs d os) hs.length = r
    have R := Asd.mk hr
    clear hr
    go_enter Try.func33, Try.ntmps33
    go_wp2_with fail
    refine jc.out.mono ?_
    clear jc
    rintro e w1 ⟨rfl, hb1⟩
    have B1 := Asd.mk hb1
    clear hb1
    go_wp2_with fail
    go_loopw [6] (fun s6 wr => ∃ i : Nat, s6 = .int .i64 i ∧ i ≤ n ∧ Asd (Below W.heap.size W wr) ∧ Asd (∀ j, j < i → stepR_ hs d os j = none)) (fun s6 _ => n - (intOf s6).toNat)
    case atStart => exact ⟨0, rfl, Nat.zero_le _, B1, ⟨fun j hj => absurd hj (Nat.not_lt_zero _)⟩⟩
    case round =>
      obtain ⟨i, rfl, hin, BW, I⟩ := hrel
      by_cases hlt : i < n
      · have hhit : ∀ x, stepR_ hs d os i = some x → r = some x := fun x e => R.out.symm.trans (tryI_hit (by have := N.out; omega) e I.out)
        have hnx : stepR_ hs d os i = none → ∀ j, j < i + 1 → stepR_ hs d os j = none := fun e j hj => by
          rcases Nat.lt_or_ge j i with h1 | h1
          · exact I.out j h1
          · obtain rfl : j = i := by omega
            exact e
        have HIT := Asd.mk hhit
        have NX := Asd.mk hnx
        clear hhit hnx
        obtain ⟨wI, h⟩ : ∃ W, W = wr := ⟨_, rfl⟩
        subst h
        have OWr := Asd.mk (O.out wI BW.out)
        go_wp2_with fail
        go_loopw [7, 8] (fun s7 s8 wq => ∃ q : Nat, s8 = .int .i64 q ∧ s7 = .bool (inTake os i q) ∧ q ≤ k ∧ Asd (wq = wI)) (fun _ s8 _ => k - (intOf s8).toNat)
        case atStart => exact ⟨0, rfl, by unfold inTake; simp, Nat.zero_le _, ⟨rfl⟩⟩
        case round =>
          obtain ⟨q, rfl, rfl, hqk, E⟩ := hrel
          have he := E.out
          subst he
          by_cases hlt2 : q < k
          · obtain ⟨b, off, rfl, hbl, hil, c0⟩ := OWr.out.at_ hlt2
            have hcd : q < cb := Nat.lt_of_lt_of_le hlt2 OWr.out.rd.cap
            have hsu := inTake_succ (v := (i : Int)) hil
            generalize os[q] = y at c0 hsu
            generalize hx : inTake os (i : Int) (q + 1) = x2 at hsu
            have X := Asd.mk hx
            clear hx
            cases hb : inTake os (i : Int) q with
            | true =>
              rw [hb] at hsu
              simp only [Bool.true_or] at hsu
              have Q := Asd.mk hsu
              clear hsu hb
              go_wp2_with fail
              go_roundw
              case measure => simp [intOf]; omega
              case rel => exact ⟨q + 1, by go_num, by rw [X.out, Q.out], by omega, by first | exact ⟨rfl⟩ | exact ⟨trivial⟩⟩
            | false =>
              rw [hb] at hsu
              simp only [Bool.false_or] at hsu
              have Q := Asd.mk hsu
              clear hsu hb
              by_cases hy : y = (i : Int)
              · subst hy
                go_wp2_with fail
                go_roundw
                case measure => simp [intOf]; omega
                case rel => exact ⟨q + 1, by go_num, by rw [X.out, Q.out]; simp, by omega, by first | exact ⟨rfl⟩ | exact ⟨trivial⟩⟩
              · have hy2 : (y == (i : Int)) = false := by simpa using hy
                go_wp2_with fail
                go_roundw
                case measure => simp [intOf]; omega
                case rel => exact ⟨q + 1, by go_num, by rw [X.out, Q.out]; simp [hy], by omega, by first | exact ⟨rfl⟩ | exact ⟨trivial⟩⟩
          · obtain rfl : q = k := by omega
            have hit : inTake os (i : Int) q = decide ((i : Int) ∈ os) := by
              unfold inTake
              rw [List.take_of_length_le (by have := K.out; omega)]
            rw [hit]
            clear hit
            by_cases hm : (i : Int) ∈ os
            · rw [decide_eq_true hm]
              have NX2 := Asd.mk (NX.out (stepR_in hm))
              clear hm NX HIT
              go_wp2_with fail
              go_roundw
              case measure => simp [intOf]; omega
              case rel => exact ⟨i + 1, by go_num, by omega, BW, NX2⟩
            · rw [decide_eq_false hm]
              have hd0 : 0 < d := Nat.lt_of_lt_of_le (freeN_pos hlt hm) FR.out
              obtain ⟨d', rfl⟩ : ∃ d', d = d' + 1 := ⟨d - 1, by omega⟩
              have FR2 : Asd (freeN n (os ++ [(i : Int)]) ≤ d') := ⟨by have := freeN_snoc hlt hm; have := FR.out; omega⟩
              have SG := Asd.mk (stepR_go (hs := hs) (d := d') hm)
              clear hm hd0
              go_wp2_with (at_builtin; first
                | (refine wpList_append_mine (base := base) (own := wr.heap.size) (v := .slice (some ⟨wr.heap.size, 0, none⟩) 0 0) (n := 0) (xs := []) rfl (.tmp 42) (.tmp 43) 24 rfl elt_i rfl rfl (World.ownsRow_made wr #[] 0 (Nat.le_refl _) (by simp [maxLen]) (by simp)) (OWr.out.rd.alloc _) (intCs_one os) (by have := KD.out; simp only [maxLen]; omega) (by have := KD.out; omega) (by simp) ?_; intro v' w2 hO2 hG2; rw [Nat.zero_add] at hO2; rw [List.nil_append] at hO2; obtain ⟨A1, c1, rfl, hR1⟩ := Rd.of_own (base := base) hO2)
                | (refine wpList_append_mine (base := base) (own := wr.heap.size) (v := .slice A1 q c1) (n := q) (m := 1) (xs := intCs os) (ys := [.int .i64 i]) rfl (.tmp 44) (.tmp 46) 24 rfl elt_i rfl rfl (hO2.alloc _) (Rd.new_ rfl rfl) (fun u hu => by simp at hu; subst hu; rfl) (by have := KD.out; simp only [maxLen]; omega) (by have := KD.out; omega) (by have := hG2.size; simp at this ⊢; omega) ?_; intro v' w3 hO3 hG3; obtain ⟨A2, c2, rfl, hR3⟩ := Rd.of_own (base := base) hO3))
              have hb2 : Below wr.heap.size wr w2 := ((Below.refl wr.heap.size wr).alloc (Nat.le_refl _) _).grown hG2 (by simp) (fun j hj => by simp [Value.ownBlock] at hj; omega)
              have hb3 : Below wr.heap.size wr w3 := (hb2.alloc hb2.size _).grown hG3 (by have := hb2.size; simp; omega) (fun j hj => own_ge hO2 hj)
              have B3 := Asd.mk (BW.out.trans (hb3.mono BW.out.size))
              have X3 : Asd (Ints base w3 A2 (q + 1) c2 (os ++ [(i : Int)])) := ⟨⟨by have := hR3; unfold intCs at this; rw [List.flatMap_append]; exact this, by have := KD.out; omega⟩⟩
              have fc2 := IH.out d' rfl w3 B3.out A2 (q + 1) c2 _ X3.out FR2.out (by have := KD.out; omega)
              generalize hq : findR hs d' (os ++ [(i : Int)]) = fr at fc2
              have Q := Asd.mk hq
              clear hq hO2 hG2 hR1 hO3 hG3 hR3 hb2 hb3
              refine fc2.mono ?_
              clear fc2
              rintro e w5 ⟨hb5, (⟨rfl, rfl⟩ | ⟨os2, B', k', cb', rfl, rfl, hI5⟩)⟩
              · have B5 := Asd.mk (B3.out.trans (hb5.mono B3.out.size))
                have NX2 := Asd.mk (NX.out (SG.out.trans Q.out))
                clear hb5
                go_wp2_with fail
                go_roundw
                case measure => simp [intOf]; omega
                case rel => exact ⟨i + 1, by go_num, by omega, B5, NX2⟩
              · have B5 := Asd.mk (B3.out.trans (hb5.mono B3.out.size))
                have HT := Asd.mk (HIT.out _ (SG.out.trans Q.out))
                have I5 := Asd.mk hI5
                clear hb5 hI5
                go_wp2_with fail
                go_ret2
                exact ⟨B5.out, .inr ⟨os2, B', k', cb', HT.out, rfl, I5.out⟩⟩
      · have RN : Asd (r = none) := ⟨R.out.symm.trans (tryI_none fun j hj => I.out j (by have := N.out; omega))⟩
        clear I
        go_wp2_with fail
        go_ret2
        exact ⟨BW.out, .inl ⟨RN.out, rfl⟩⟩


theorem fromR_calls {base : Nat} {A : Option Addr} {n c : Nat} {hs : List CallR} (hn7 : n ≤ 7) (d : Nat) :
    ∀ (W : World) (B : Option Addr) (k cb : Nat) (os : List Int), Hist base W A n c hs → base ≤ W.heap.size → Ints base W B k cb os → freeN n os ≤ d → k + d ≤ 8 →
      Calls Try.prog 33 #[.slice A n c, .slice B k cb] W (FromRPost base W (findR hs d os)) := by
  induction d with
  | zero =>
    intro W B k cb os h1 h2 h3 h4 h5
    exact fromR_step hn7 0 (fun d' e => by omega) W B k cb os h1 h2 h3 h4 h5
  | succ d ih =>
    intro W B k cb os h1 h2 h3 h4 h5
    refine fromR_step hn7 (d + 1) (fun d' e => ?_) W B k cb os h1 h2 h3 h4 h5
    obtain rfl : d = d' := by omega
    exact ih

set_option maxHeartbeats 16000000 in
set_option maxRecDepth 100000 in
theorem RSearch_calls {base : Nat} {w : World} {A : Option Addr} {n c : Nat} {hs : List CallR} (hh : Hist base w A n c hs) (hbs : base ≤ w.heap.size) :
    Calls Try.prog 10 #[.slice A n c] w (SearchPost base w hs) := by
  have hn := hh.len
  have hnb := hh.big
  have H := Asd.mk hh
  have N := Asd.mk hn
  generalize hp : searchP hs = p
  have P := Asd.mk hp
  unfold SearchPost
  rw [hp]
  have FC : Asd (n ≤ 7 → ∀ W, Below w.heap.size w W → Calls Try.prog 33 #[.slice A n c, .slice none 0 0] W (FromRPost base W (findC hs n []))) :=
    ⟨fun h7 W hW => by
      rw [findC_eq]
      exact fromR_calls h7 n W none 0 0 [] (hh.below hW) (Nat.le_trans hbs hW.size) (ints_nil _ _) (freeN_nil n) (by omega)⟩
  clear hh hp
  by_cases hl : 7 < n
  · have hl' : (7 : Int) < (n : Int) := by omega
    obtain rfl : ([], false, 2) = p := by rw [← P.out]; unfold searchP; rw [if_pos (by omega)]
    clear hn P FC H
    go_enter Try.func10, Try.ntmps10
    go_wp2_with fail
    go_ret3
    exact ⟨Below.refl _ _, none, 0, 0, rfl, ints_nil _ _⟩
  · have hl' : ¬ (7 : Int) < (n : Int) := by omega
    have hl3 : n ≤ 7 := by omega
    have BAD : Asd (hs.any (fun x => !x.ok) = true → ([], false, 80) = p) := ⟨fun h => by rw [← P.out]; unfold searchP; rw [if_neg (by omega), if_pos h]⟩
    have GOOD : Asd (hs.any (fun x => !x.ok) = false → p = match findC hs n [] with
          | some os => (os, true, 0)
          | none => ([], false, 0)) := ⟨fun h => by rw [← P.out]; unfold searchP; rw [if_neg (by omega), if_neg (by rw [h]; simp), N.out]; cases findC hs n [] <;> rfl⟩
    have FC2 := Asd.mk (FC.out hl3)
    clear P FC hn hl hnb
    go_enter Try.func10, Try.ntmps10
    go_wp2_with fail
    go_loopw [5] (fun s5 wr => ∃ k : Nat, s5 = .int .i64 k ∧ k ≤ n ∧ Asd (Below w.heap.size w wr) ∧ Asd (∀ j (hj : j < hs.length), j < k → (!hs[j].ok) = false)) (fun s5 _ => n - (intOf s5).toNat)
    case atStart => exact ⟨0, rfl, Nat.zero_le _, ⟨Below.refl _ _⟩, ⟨fun j _ hj => absurd hj (Nat.not_lt_zero _)⟩⟩
    case round =>
      obtain ⟨k, rfl, hkn, FW, I⟩ := hrel
      by_cases hlt : k < n
      · obtain ⟨b, off, rfl, hbl, hil, hcs⟩ := (H.out.rd.below FW.out).at_enc (enc := CallR.enc) (fun _ => rfl) (by omega) hlt
        have hcc : k < c := Nat.lt_of_lt_of_le hlt H.out.rd.cap
        have hmay := RMay2_calls ((H.out.below FW.out).ins _ (List.getElem_mem hil))
        have hnx : hs[k].ok = true → ∀ j (hj : j < hs.length), j < k + 1 → (!hs[j].ok) = false := fun e j hj hjk => by
          rcases Nat.lt_or_ge j k with h1 | h1
          · exact I.out j hj h1
          · obtain rfl : j = k := by omega
            rw [e]; rfl
        have hbad : hs[k].ok = false → ([], false, 80) = p := fun e => BAD.out (List.any_eq_true.2 ⟨_, List.getElem_mem hil, by rw [e]; rfl⟩)
        generalize hs[k] = y at hcs hmay hnx hbad
        have c0 := hcs 0 _ rfl
        have c1 := hcs 1 _ rfl
        have c2 := hcs 2 _ rfl
        have c3 := hcs 3 _ rfl
        have c4 := hcs 4 _ rfl
        have c5 := hcs 5 _ rfl
        have c6 := hcs 6 _ rfl
        have c7 := hcs 7 _ rfl
        have c8 := hcs 8 _ rfl
        have c9 := hcs 9 _ rfl
        rw [Nat.add_zero] at c0
        clear hcs
        unfold CallR.enc at hmay
        cases hq : y.ok with
        | true =>
          rw [hq] at hmay
          have Q := Asd.mk (hnx hq)
          have MC := Asd.mk hmay
          clear hq hnx hbad hmay
          go_wp2_with fail
          refine MC.out.mono ?_
          rintro e w5 ⟨rfl, hb5⟩
          have B5 := Asd.mk (FW.out.trans (hb5.mono FW.out.size))
          clear hb5
          go_wp2_with fail
          go_roundw
          case measure => simp [intOf]; omega
          case rel => exact ⟨k + 1, by go_num, by omega, B5, Q⟩
        | false =>
          rw [hq] at hmay
          obtain rfl := hbad hq
          have MC := Asd.mk hmay
          clear hq hnx hbad hmay
          go_wp2_with fail
          refine MC.out.mono ?_
          rintro e w5 ⟨rfl, hb5⟩
          have B5 := Asd.mk (FW.out.trans (hb5.mono FW.out.size))
          clear hb5
          go_wp2_with fail
          go_ret3
          exact ⟨B5.out, none, 0, 0, rfl, ints_nil _ _⟩
      · obtain rfl : k = n := by omega
        have ANY : hs.any (fun x => !x.ok) = false := by
          rw [List.any_eq_false]
          intro x hx
          obtain ⟨t, ht, rfl⟩ := List.getElem_of_mem hx
          rw [I.out t ht (by have := N.out; omega)]
          simp
        have hp := GOOD.out ANY
        have fc := FC2.out wr FW.out
        generalize findC hs k [] = r at hp fc
        have P2 := Asd.mk hp
        clear hp ANY I GOOD BAD FC2
        go_wp2_with fail
        refine fc.mono ?_
        clear fc
        rintro e w5 ⟨hb5, (⟨rfl, rfl⟩ | ⟨os2, B', k', cb', rfl, rfl, hI5⟩)⟩
        · have B5 := Asd.mk (FW.out.trans (hb5.mono FW.out.size))
          obtain rfl : p = ([], false, 0) := P2.out
          clear hb5 P2
          go_wp2_with fail
          go_ret3
          exact ⟨B5.out, none, 0, 0, rfl, ints_nil _ _⟩
        · have B5 := Asd.mk (FW.out.trans (hb5.mono FW.out.size))
          have I5 := Asd.mk hI5
          obtain rfl : p = (os2, true, 0) := P2.out
          clear hb5 P2 hI5
          go_wp2_with fail
          go_ret3
          exact ⟨B5.out, B', k', cb', rfl, I5.out⟩

end Go.Proofs.Ytlhjfblpinpjiaa

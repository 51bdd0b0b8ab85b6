/- code.Decode. What is written is read: plain. -/
import Derived.Test.YtallnibjmffahaaGreatDoorJ11
set_option linter.unusedVariables false
set_option linter.unusedSimpArgs false
namespace Go.Proofs.YtallnibjmffahaaGreatDoor
open Go.RowKit

theorem fieldP_less {s : ByteArray} (h : (fieldP s).e = 0) (hs : 0 < s.size) : (fieldP s).rest.size < s.size := by
  unfold fieldP at h ⊢
  split at h
  · cases h
  · rename_i h1
    rw [if_neg h1]
    split at h
    · cases h
    · rename_i h2
      rw [if_neg h2]
      have hb : (s.extract 2 s.size).size = s.size - 2 := by rw [ByteArray.size_extract]; omega
      generalize s.extract 2 s.size = b at h hb
      unfold fieldP2 at h ⊢
      repeat' split at h
      all_goals first | cases h | skip
      · rename_i g1 g2 g3 g4
        rw [if_neg g1, if_neg g2, if_neg g3, if_pos g4]
        simp only [ByteArray.size_extract]
        omega
      · rename_i g1 g2 g3 g4 g5 g6
        rw [if_neg g1, if_neg g2, if_neg g3, if_neg g4, if_neg g5, if_neg g6]
        simp only [ByteArray.size_extract]
        omega
/-- What Decode reads behind what it has: the fields, or where and what the error is. -/
structure DecR where
  l : List FieldR
  at_ : Int
  code : Int
def decGo (n : Nat) (rest : ByteArray) (out : List FieldR) : DecR :=
  if h : rest.size = 0 then ⟨out, 0, 0⟩
  else if out.length = 4096 then ⟨[], (n : Int) - rest.size, 2⟩
  else if he : (fieldP rest).e = 0 then decGo n (fieldP rest).rest (out ++ [(fieldP rest).f])
  else ⟨[], (n : Int) - rest.size, (fieldP rest).e⟩
termination_by rest.size
decreasing_by exact fieldP_less he (by omega)
def decP (b : ByteArray) : DecR := if 262144 < b.size then ⟨[], 0, 2⟩ else decGo b.size b []
/-- What Decode answers. -/
def DecPost (w : World) (r : DecR) (e : Ending) (w' : World) : Prop :=
  ∃ A n c, e = .returned (.tuple #[.slice A n c, .agg #[.int .i64 r.at_, .int .i64 r.code]]) ∧ w'.ownsRow w.heap.size 94 3 (.slice A n c) n (fieldCells r.l) ∧ Below w.heap.size w w'

theorem dec_end {w wr : World} {B : Option Addr} {m d : Nat} {l : List FieldR} {c0 : Array Value} (hF : wr.heap[w.heap.size]? = some (.cells c0 49 (0, 0))) (hO : wr.ownsRow w.heap.size 94 3 (.slice B m d) m (fieldCells l)) (hB : Below w.heap.size w wr) (u v : Value) :
    ((wr.setCell ⟨w.heap.size, 0, none⟩ u).setCell ⟨w.heap.size, 1, none⟩ v).ownsRow w.heap.size 94 3 (.slice B m d) m (fieldCells l) ∧ Below w.heap.size w ((wr.setCell ⟨w.heap.size, 0, none⟩ u).setCell ⟨w.heap.size, 1, none⟩ v) :=
  ⟨hO.kept (gb_trans (gb_cell' _ _ _ _) (gb_cell' _ _ _ _)) (.inr fun e => by
    obtain ⟨⟨cs, fr, h2⟩, _⟩ := own_istM hO _ e
    rw [hF] at h2
    injection h2 with h2
    injection h2 with _ h2
    exact absurd h2 (by decide)), (hB.setCell (Nat.le_refl _) u).setCell (Nat.le_refl _) v⟩
theorem ne_txt {a b : ByteArray} (h : a ≠ b) : (a.toList == b.toList) = false ∧ ¬ a.toList = b.toList := ⟨by rw [same_eq]; exact decide_eq_false h, fun e => h (by rw [toList_eq, toList_eq] at e; exact key_ext e)⟩
set_option maxHeartbeats 4000000 in
set_option maxRecDepth 100000 in
theorem Decode_calls (b : ByteArray) (w : World) : Calls Tryz.prog 27 #[.string b] w (DecPost w (decP b)) := by
  have hal : Asd (Below w.heap.size w (w.alloc (.cells #[.int .i64 0, .int .i64 0] 49))) := ⟨(Below.refl _ _).alloc (Nat.le_refl _) _⟩
  have hbl : Asd ((w.alloc (.cells #[.int .i64 0, .int .i64 0] 49)).heap[w.heap.size]? = some (.cells #[.int .i64 0, .int .i64 0] 49 (0, 0))) := ⟨heap_alloc_new w _⟩
  by_cases hbig : 262144 < b.size
  · have hb2 : (262144 : Int) < (b.size : Int) := by omega
    have EP : Asd (decP b = ⟨[], 0, 2⟩) := ⟨by unfold decP; rw [if_pos hbig]⟩
    go_enter Tryz.func27, Tryz.ntmps27
    go_wp2_with fail
    refine bodyPost_ret (v := .tuple #[.slice none 0 0, .agg #[.int .i64 0, .int .i64 2]]) (by simp [results, Tryz.results27, go_sem]) rfl ?_
    exact ⟨none, 0, 0, by rw [EP.out], by rw [EP.out]; exact World.ownsRow_nil _ _ _ _, (Below.refl _ _).alloc (Nat.le_refl _) _⟩
  · have hb2 : ¬ (262144 : Int) < (b.size : Int) := by omega
    go_enter Tryz.func27, Tryz.ntmps27
    go_upto_region 5 with fail
    generalize w.alloc (.cells #[.int .i64 0, .int .i64 0] 49) = w1 at hal hbl ⊢
    have D0 : Asd (decP b = decGo b.size b []) := ⟨by unfold decP; rw [if_neg hbig]⟩
    have S0 : Asd (b.size ≤ b.size) := ⟨Nat.le_refl _⟩
    have O0 : Asd (w1.ownsRow w.heap.size 94 3 (.slice none 0 0) 0 (fieldCells [])) := ⟨World.ownsRow_nil _ _ _ _⟩
    go_loopw [4, 5] (fun s4 s5 wr => ∃ (m d : Nat) (B : Option Addr) (l : List FieldR) (rest : ByteArray), s4 = .slice B m d ∧ s5 = .string rest ∧ m ≤ 4096 ∧ Asd (l.length = m) ∧ Asd (decP b = decGo b.size rest l) ∧ Asd (rest.size ≤ b.size) ∧ Asd (Below w.heap.size w wr) ∧ Asd (wr.heap[w.heap.size]? = some (.cells #[.int .i64 0, .int .i64 0] 49 (0, 0))) ∧ Asd (wr.ownsRow w.heap.size 94 3 (.slice B m d) m (fieldCells l))) (fun _ s5 _ => match s5 with | .string r => r.size | _ => 0)
    case atStart => exact ⟨0, 0, none, [], b, rfl, rfl, by omega, ⟨rfl⟩, D0, S0, hal, hbl, O0⟩
    case round =>
      obtain ⟨m, d, B, l, rest, rfl, rfl, hm, LL, DD, SS, BW, FW, OW⟩ := hrel
      clear hal hbl D0 S0 O0
      have f0 := (cell_of_row wr w.heap.size 0 _ _ _ FW.out).trans rfl
      have f1 := (cell_of_row wr w.heap.size 1 _ _ _ FW.out).trans rfl
      have ff : ∀ i, wr.frozen? ⟨w.heap.size, i, none⟩ = false := fun i => by simp [World.frozen?, FW.out]
      have hsz := SS.out
      by_cases h0 : rest.size = 0
      · obtain rfl : rest = ⟨#[]⟩ := by
          obtain ⟨a⟩ := rest
          have : a.size = 0 := h0
          rw [Array.eq_empty_of_size_eq_zero this]
        have DE : Asd (decP b = ⟨l, 0, 0⟩) := ⟨by rw [DD.out]; unfold decGo; rw [dif_pos (show (⟨#[]⟩ : ByteArray).size = 0 from rfl)]⟩
        have EN := Asd.mk (fun u v => dec_end (c0 := #[.int .i64 0, .int .i64 0]) FW.out OW.out BW.out u v)
        have g0 := ff 0
        have g1 := ff 1
        have fl : w.heap.size < wr.heap.size := (Array.getElem?_eq_some_iff.1 FW.out).1
        go_wp2_with fail
        refine bodyPost_ret (v := .tuple #[.slice B m d, .agg #[.int .i64 0, .int .i64 0]]) (by simp [results, Tryz.results27, go_sem, f0, f1]) rfl ?_
        exact ⟨B, m, d, by rw [DE.out], by rw [DE.out]; exact (EN.out _ _).1, (EN.out _ _).2⟩
      · have hpos : 0 < rest.size := by omega
        have hne : rest ≠ ⟨#[]⟩ := fun e => h0 (by rw [e]; rfl)
        have q2 : ¬ rest.toList = [] := by have := (ne_txt hne).2; simpa [toList_eq] using this
        have q1 : rest.toList.isEmpty = false := by cases h : rest.toList with | nil => exact absurd h q2 | cons _ _ => rfl
        clear h0
        have hw : IntKind.i64.wrap ((b.size : Int) - (rest.size : Int)) = (b.size : Int) - (rest.size : Int) := IntWalk.i64_in _ (by omega)
        by_cases h4 : m = 4096
        · have DE : Asd (decP b = ⟨[], (b.size : Int) - (rest.size : Int), 2⟩) := ⟨by rw [DD.out]; unfold decGo; rw [dif_neg (by omega), if_pos (by rw [LL.out]; exact h4)]⟩
          have EN := Asd.mk (fun u v => dec_end (c0 := #[.int .i64 0, .int .i64 0]) FW.out OW.out BW.out u v)
          have h5 : (m : Int) = 4096 := by omega
          clear h4
          go_wp2_with fail
          refine bodyPost_ret (v := .tuple #[.slice none 0 0, .agg #[.int .i64 ((b.size : Int) - (rest.size : Int)), .int .i64 2]]) (by simp [results, Tryz.results27, go_sem, f0, f1, ff]) rfl ?_
          exact ⟨none, 0, 0, by rw [DE.out], by rw [DE.out]; exact World.ownsRow_nil _ _ _ _, (EN.out _ _).2⟩
        · have h5 : ¬ (m : Int) = 4096 := by omega
          have FC := Asd.mk (field_calls rest hpos wr)
          by_cases he : (fieldP rest).e = 0
          · have DE : Asd (decP b = decGo b.size (fieldP rest).rest (l ++ [(fieldP rest).f])) := ⟨by rw [DD.out, decGo, dif_neg (by omega), if_neg (by rw [LL.out]; exact h4), dif_pos he]⟩
            have LE := Asd.mk (fieldP_less he hpos)
            clear h4
            generalize fieldP rest = p at FC DE LE he
            obtain ⟨⟨ft, fn, fs⟩, pr, pe⟩ := p
            obtain rfl : pe = 0 := he
            have FC' : Asd (Calls Tryz.prog 48 #[.string rest] wr fun e w' => e = .returned (.tuple #[.agg #[.bool ft, .int .i64 fn, .string fs], .string pr, .int .i64 0]) ∧ Below wr.heap.size wr w') := ⟨FC.out⟩
            have DE' : Asd (decP b = decGo b.size pr (l ++ [⟨ft, fn, fs⟩])) := ⟨DE.out⟩
            have LE' : Asd (pr.size < rest.size) := ⟨LE.out⟩
            clear FC DE LE
            go_wp2_with fail
            refine FC'.out.mono ?_
            clear FC'
            rintro e w2 ⟨rfl, hb2'⟩
            have hbs : w.heap.size ≤ w2.heap.size := Nat.le_trans BW.out.size hb2'.size
            have B2 := Asd.mk ((BW.out.trans (hb2'.mono BW.out.size)).alloc hbs (.cells #[.bool ft, .int .i64 fn, .string fs] 94))
            have hF2 := (hb2'.block _ (Array.getElem?_eq_some_iff.1 FW.out).1).trans FW.out
            have F2 := Asd.mk (((Below.refl w2.heap.size w2).alloc (Nat.le_refl _) (.cells #[.bool ft, .int .i64 fn, .string fs] 94)).block _ (Array.getElem?_eq_some_iff.1 hF2).1 |>.trans hF2)
            have O2 := Asd.mk ((OW.out.kept (gb_below hb2' none) (by cases (Value.slice B m d).ownBlock <;> simp)).alloc (.cells #[.bool ft, .int .i64 fn, .string fs] 94))
            have X2 := Asd.mk (heap_alloc_new w2 (.cells #[.bool ft, .int .i64 fn, .string fs] 94))
            clear hb2' hF2 BW FW OW f0 f1 ff
            go_upto_region 10 with fail
            obtain ⟨xb, hxb⟩ : ∃ xb, xb = w2.heap.size := ⟨_, rfl⟩
            rw [← hxb] at X2 ⊢
            have hbs3 : w.heap.size ≤ (w2.alloc (.cells #[.bool ft, .int .i64 fn, .string fs] 94)).heap.size := by simp; omega
            generalize w2.alloc (.cells #[.bool ft, .int .i64 fn, .string fs] 94) = w3 at B2 F2 O2 X2 hbs3 ⊢
            clear hxb hbs
            have x0 := (cell_of_row w3 xb 0 _ _ _ X2.out).trans rfl
            have x1 := (cell_of_row w3 xb 1 _ _ _ X2.out).trans rfl
            have x2 := (cell_of_row w3 xb 2 _ _ _ X2.out).trans rfl
            go_wp2_with (at_builtin; refine wpList_append_mine (base := w.heap.size) (own := w.heap.size) (v := .slice B m d) (n := m) (m := 1) (xs := fieldCells l) (ys := [.bool ft, .int .i64 fn, .string fs]) rfl (.tmp 38) (.tmp 40) 90 rfl elt_field rfl rfl (O2.out.alloc _) (Rd.new_ rfl rfl) (field_one [⟨ft, fn, fs⟩]) (by unfold maxLen; omega) (by omega) (by simp; omega) ?_; intro v4 w4 O4' G4'; obtain ⟨B4, d4, rfl, _⟩ := Rd.of_own (base := w.heap.size) O4'; have K4' := (((Kp.refl 94 w.heap.size w3).alloc hbs3 (.cells #[.bool ft, .int .i64 fn, .string fs] 94)).trans (Kp.own (O2.out.alloc _) G4' (by simp; omega))); have O4 := Asd.mk O4'; have B4' := Asd.mk (B2.out.trans K4'.below); have F4 := Asd.mk (K4'.blk F2.out (by decide)); clear O4' G4' K4')
            have O5 : Asd (w4.ownsRow w.heap.size 94 3 (.slice B4 (m + 1) d4) (m + 1) (fieldCells (l ++ [⟨ft, fn, fs⟩]))) := ⟨by
              have := O4.out
              unfold fieldCells at this ⊢
              rw [List.flatMap_append]
              simpa [FieldR.enc] using this⟩
            clear O4 x0 x1 x2
            go_roundw
            case measure => exact LE'.out
            case rel => exact ⟨m + 1, d4, B4, l ++ [⟨ft, fn, fs⟩], pr, rfl, rfl, by omega, ⟨by rw [List.length_append, LL.out]; rfl⟩, DE', ⟨by have := LE'.out; have := SS.out; omega⟩, B4', F4, O5⟩
          · have DE : Asd (decP b = ⟨[], (b.size : Int) - (rest.size : Int), (fieldP rest).e⟩) := ⟨by rw [DD.out, decGo, dif_neg (by omega), if_neg (by rw [LL.out]; exact h4), dif_neg he]⟩
            clear h4
            generalize fieldP rest = p at FC DE he
            obtain ⟨⟨ft, fn, fs⟩, pr, pe⟩ := p
            have he2 : ¬ pe = 0 := he
            have he3 : (pe == 0) = false := by simpa using he2
            have FC' : Asd (Calls Tryz.prog 48 #[.string rest] wr fun e w' => e = .returned (.tuple #[.agg #[.bool ft, .int .i64 fn, .string fs], .string pr, .int .i64 pe]) ∧ Below wr.heap.size wr w') := ⟨FC.out⟩
            have DE' : Asd (decP b = ⟨[], (b.size : Int) - (rest.size : Int), pe⟩) := ⟨DE.out⟩
            clear FC DE he
            go_wp2_with fail
            refine FC'.out.mono ?_
            clear FC'
            rintro e w2 ⟨rfl, hb2'⟩
            have hbs : w.heap.size ≤ w2.heap.size := Nat.le_trans BW.out.size hb2'.size
            have B2 := Asd.mk ((BW.out.trans (hb2'.mono BW.out.size)).alloc hbs (.cells #[.bool ft, .int .i64 fn, .string fs] 94))
            have hF2 := (hb2'.block _ (Array.getElem?_eq_some_iff.1 FW.out).1).trans FW.out
            have F2 := Asd.mk (((Below.refl w2.heap.size w2).alloc (Nat.le_refl _) (.cells #[.bool ft, .int .i64 fn, .string fs] 94)).block _ (Array.getElem?_eq_some_iff.1 hF2).1 |>.trans hF2)
            clear hb2' hF2 BW FW OW f0 f1 ff
            go_upto_region 10 with fail
            generalize w2.alloc (.cells #[.bool ft, .int .i64 fn, .string fs] 94) = w3 at B2 F2 ⊢
            clear hbs
            have f0 := (cell_of_row w3 w.heap.size 0 _ _ _ F2.out).trans rfl
            have f1 := (cell_of_row w3 w.heap.size 1 _ _ _ F2.out).trans rfl
            have ff : ∀ i, w3.frozen? ⟨w.heap.size, i, none⟩ = false := fun i => by simp [World.frozen?, F2.out]
            go_wp2_with fail
            refine bodyPost_ret (v := .tuple #[.slice none 0 0, .agg #[.int .i64 ((b.size : Int) - (rest.size : Int)), .int .i64 pe]]) (by simp [results, Tryz.results27, go_sem, f0, f1, ff]) rfl ?_
            exact ⟨none, 0, 0, by rw [DE'.out], by rw [DE'.out]; exact World.ownsRow_nil _ _ _ _, (B2.out.setCell (Nat.le_refl _) _).setCell (Nat.le_refl _) _⟩
end Go.Proofs.YtallnibjmffahaaGreatDoor

set_option linter.unusedVariables false
set_option linter.unusedSimpArgs false
namespace Go.Proofs.YtallnibjmffahaaGreatDoor
open Go.RowKit

theorem byL_extract (s : ByteArray) (i j : Nat) : byL (s.extract i j) = ((byL s).drop i).take (j - i) := by
  show (s.extract i j).data.toList = (s.data.toList.drop i).take (j - i)
  rw [ByteArray.data_extract, Array.toList_extract, List.extract_eq_take_drop]
theorem by_ext {a b : ByteArray} (h : byL a = byL b) : a = b := by
  obtain ⟨a⟩ := a
  obtain ⟨b⟩ := b
  unfold byL at h
  simp only at h
  rw [Array.toList_inj.1 h]
theorem byL_mk (l : List UInt8) : byL ⟨l.toArray⟩ = l := by unfold byL; simp
theorem byAt_eq (s : ByteArray) (i : Nat) : byAt s i = ((byL s)[i]?.getD 0).toNat := by
  unfold byAt
  split
  · rename_i h
    have h2 : i < (byL s).length := by rw [byL_len]; exact h
    rw [List.getElem?_eq_getElem h2]
    rfl
  · rename_i h
    rw [List.getElem?_eq_none (by rw [byL_len]; omega)]
    rfl
theorem valB_lowB (k n : Nat) : valB (lowB k n) = n % 256 ^ k := by
  induction k generalizing n with
  | zero => simp [lowB, valB, Nat.mod_one]
  | succ k ih =>
    rw [lowB, valB, ih, Nat.pow_succ, Nat.mul_comm, Nat.mul_comm (256 ^ k) 256, Nat.mod_mul]
    have : (UInt8.ofNat n).toNat = n % 256 := by simp
    rw [this]
    omega
theorem lt_lenB (n : Nat) : n < 256 ^ lenB n := by
  induction n using Nat.strongRecOn with
  | _ n ih =>
    by_cases h : n = 0
    · subst h; rw [lenB_zero]; simp
    · rw [lenB_pos (by omega), Nat.pow_succ]
      have := ih (n / 256) (by omega)
      omega
theorem le_lenB (n : Nat) (h : 0 < n) : 256 ^ (lenB n - 1) ≤ n := by
  induction n using Nat.strongRecOn with
  | _ n ih =>
    rw [lenB_pos h, Nat.add_sub_cancel]
    by_cases h2 : n / 256 = 0
    · rw [h2, lenB_zero]; simp; omega
    · have := ih (n / 256) (by omega) (by omega)
      rw [lenB_pos (n := n / 256) (by omega)] at this ⊢
      rw [Nat.add_sub_cancel] at this
      rw [Nat.pow_succ]
      omega
theorem lenB_zero_iff (n : Nat) : lenB n = 0 ↔ n = 0 := by
  constructor
  · intro h
    rcases Nat.eq_zero_or_pos n with h0 | h0
    · exact h0
    · rw [lenB_pos h0] at h; omega
  · rintro rfl; exact lenB_zero
theorem lowB_last {n : Nat} (h : 0 < n) : (((lowB (lenB n) n)[lenB n - 1]?).getD 0).toNat ≠ 0 := by
  obtain ⟨k, hk⟩ : ∃ k, lenB n = k + 1 := ⟨lenB n - 1, by have := lenB_zero_iff n; omega⟩
  have h1 := le_lenB n h
  have h2 := lt_lenB n
  rw [hk] at h1 h2 ⊢
  rw [Nat.add_sub_cancel] at h1 ⊢
  rw [lowB_snoc, List.getElem?_append_right (by rw [lowB_len]; omega), lowB_len, Nat.sub_self]
  simp only [List.getElem?_cons_zero, Option.getD_some]
  have h3 : 0 < n / 256 ^ k := Nat.div_pos h1 (Nat.pow_pos (by omega))
  have h4 : n / 256 ^ k < 256 := by
    rw [Nat.div_lt_iff_lt_mul (Nat.pow_pos (by omega)), Nat.mul_comm, ← Nat.pow_succ]
    exact h2
  have : (UInt8.ofNat (n / 256 ^ k)).toNat = n / 256 ^ k := by simp; omega
  omega
theorem lenB_byte {n : Nat} (h : n < 18446744073709551616) : (UInt8.ofNat (lenB n)).toNat = lenB n := by
  have := lenB_8 h
  simp
  omega
/-- The head of a number's bytes is read so. -/
theorem fieldP2_num {k x : Nat} {b : ByteArray} {t : List UInt8} (hx : x < 9223372036854775808) (hb : byL b = lowB (lenB x) x ++ t) :
    fieldP2 k (lenB x) b = if k = 78 then ⟨⟨false, x, ⟨#[]⟩⟩, ⟨t.toArray⟩, 0⟩ else if 262144 < x then ⟨zeroF, ⟨#[]⟩, 3⟩ else if t.length < x then ⟨zeroF, ⟨#[]⟩, 11⟩ else ⟨⟨true, 0, ⟨(t.take x).toArray⟩⟩, ⟨(t.drop x).toArray⟩, 0⟩ := by
  have h8 := lenB_8 (n := x) (by omega)
  have hbs : b.size = lenB x + t.length := by rw [← byL_len, hb, List.length_append, lowB_len]
  have e1 : b.extract (lenB x) b.size = ⟨t.toArray⟩ := by
    apply by_ext
    rw [byL_extract, byL_mk t, hb, List.drop_append_of_le_length (by rw [lowB_len]; omega), List.drop_of_length_le (by rw [lowB_len]; omega), List.nil_append, List.take_of_length_le (by omega)]
  have e2 : valB (byL (b.extract 0 (lenB x))) = x := by
    rw [byL_extract, hb, List.drop_zero, Nat.sub_zero, List.take_append_of_le_length (by rw [lowB_len]; omega), List.take_of_length_le (by rw [lowB_len]; omega), valB_lowB, Nat.mod_eq_of_lt (lt_lenB x)]
  have e3 : IntKind.i64.wrap (x : Int) = x := IntWalk.i64_in _ (by omega)
  unfold fieldP2
  rw [e1, e2, e3, if_neg (by omega), if_neg (by omega)]
  have e4 : ¬ (0 < lenB x ∧ byAt b (lenB x - 1) = 0) := by
    rintro ⟨h1, h2⟩
    have hx0 : 0 < x := by
      rcases Nat.eq_zero_or_pos x with h0 | h0
      · rw [h0, lenB_zero] at h1; omega
      · exact h0
    rw [byAt_eq, hb, List.getElem?_append_left (by rw [lowB_len]; omega)] at h2
    exact lowB_last hx0 h2
  rw [if_neg e4]
  have ts : (⟨t.toArray⟩ : ByteArray).size = t.length := by rw [← byL_len, byL_mk]
  by_cases hk : k = 78
  · rw [if_pos hk, if_pos hk]
  · rw [if_neg hk, if_neg hk]
    by_cases h5 : 262144 < x
    · rw [if_pos (by omega), if_pos h5]
    · rw [if_neg (by omega), if_neg h5, ts]
      by_cases h6 : t.length < x
      · rw [if_pos (by omega), if_pos h6]
      · rw [if_neg (by omega), if_neg h6]
        have e5 : (⟨t.toArray⟩ : ByteArray).extract 0 (x : Int).toNat = ⟨(t.take x).toArray⟩ := by
          apply by_ext
          rw [byL_extract, byL_mk, byL_mk]
          simp
        have e6 : (⟨t.toArray⟩ : ByteArray).extract (x : Int).toNat t.length = ⟨(t.drop x).toArray⟩ := by
          apply by_ext
          rw [byL_extract, byL_mk, byL_mk]
          simp only [Int.toNat_natCast]
          rw [List.take_of_length_le (by rw [List.length_drop]; omega)]
        rw [e5, e6]
/-- A field that is written is read. -/
theorem field_round {f : FieldR} (hg : f.good) (h3 : f.s.size ≤ 262144) {s : ByteArray} {t : List UInt8} (hs : byL s = f.bytes ++ t) : fieldP s = ⟨f, ⟨t.toArray⟩, 0⟩ := by
  obtain ⟨ft, fn, fs⟩ := f
  rcases hg with ⟨g1, g2, g3, g4⟩ | ⟨g1, g2, g3⟩
  · simp only at g1 g2 g3 g4
    subst g1 g4
    obtain ⟨x, rfl⟩ : ∃ x : Nat, fn = x := ⟨fn.toNat, by omega⟩
    have hx : x < 9223372036854775808 := by omega
    have hs2 : byL s = 78 :: (UInt8.ofNat (lenB x) :: (lowB (lenB x) x ++ t)) := by
      rw [hs]; simp [FieldR.bytes, numB]
    have hsz : s.size = lenB x + t.length + 2 := by rw [← byL_len, hs2]; simp [lowB_len]
    have k0 : byAt s 0 = 78 := by rw [byAt_eq, hs2]; rfl
    have k1 : byAt s 1 = lenB x := by rw [byAt_eq, hs2]; exact lenB_byte (by omega)
    have hb : byL (s.extract 2 s.size) = lowB (lenB x) x ++ t := by
      rw [byL_extract, hs2]
      simp only [List.drop_succ_cons, List.drop_zero]
      rw [List.take_of_length_le (by rw [List.length_append, lowB_len]; omega)]
    unfold fieldP
    rw [if_neg (by omega), if_neg (by omega), k0, k1, fieldP2_num hx hb, if_pos rfl]
  · simp only at g1 g2 g3 h3
    subst g1 g2
    have hs2 : byL s = 84 :: (UInt8.ofNat (lenB fs.size) :: (lowB (lenB fs.size) fs.size ++ (byL fs ++ t))) := by
      rw [hs]; simp [FieldR.bytes, numB, byL]
    have hsz : s.size = lenB fs.size + (fs.size + t.length) + 2 := by rw [← byL_len, hs2]; simp [lowB_len, byL_len]
    have k0 : byAt s 0 = 84 := by rw [byAt_eq, hs2]; rfl
    have k1 : byAt s 1 = lenB fs.size := by rw [byAt_eq, hs2]; exact lenB_byte (by omega)
    have hb : byL (s.extract 2 s.size) = lowB (lenB fs.size) fs.size ++ (byL fs ++ t) := by
      rw [byL_extract, hs2]
      simp only [List.drop_succ_cons, List.drop_zero]
      rw [List.take_of_length_le (by rw [List.length_append, lowB_len, List.length_append, byL_len]; omega)]
    unfold fieldP
    rw [if_neg (by omega), if_neg (by omega), k0, k1, fieldP2_num (by omega) hb, if_neg (by omega), if_neg (by omega), if_neg (by rw [List.length_append, byL_len]; omega)]
    have e1 : (⟨((byL fs ++ t).take fs.size).toArray⟩ : ByteArray) = fs := by
      apply by_ext
      rw [byL_mk, List.take_append_of_le_length (by rw [byL_len]; omega), List.take_of_length_le (by rw [byL_len]; omega)]
    have e2 : (byL fs ++ t).drop fs.size = t := by
      rw [List.drop_append_of_le_length (by rw [byL_len]; omega), List.drop_of_length_le (by rw [byL_len]; omega), List.nil_append]
    rw [e1, e2]
theorem bytes_pos (f : FieldR) : 0 < f.bytes.length := by unfold FieldR.bytes; split <;> simp
theorem decGo_round (n : Nat) : ∀ (l out : List FieldR) (rest : ByteArray), byL rest = encB l → (∀ f ∈ l, f.good ∧ f.s.size ≤ 262144) → out.length + l.length ≤ 4096 → decGo n rest out = ⟨out ++ l, 0, 0⟩ := by
  intro l
  induction l with
  | nil =>
    intro out rest hb _ _
    have : rest.size = 0 := by rw [← byL_len, hb]; rfl
    rw [decGo, dif_pos this, List.append_nil]
  | cons f l ih =>
    intro out rest hb hg hl
    have hb2 : byL rest = f.bytes ++ encB l := by rw [hb]; rfl
    have hr := field_round (hg f (List.mem_cons_self ..)).1 (hg f (List.mem_cons_self ..)).2 hb2
    have hp := bytes_pos f
    have hsz : rest.size ≠ 0 := by rw [← byL_len, hb2, List.length_append]; omega
    simp only [List.length_cons] at hl
    rw [decGo, dif_neg hsz, if_neg (by omega), hr]
    simp only [dite_true]
    rw [ih (out ++ [f]) ⟨(encB l).toArray⟩ (byL_mk _) (fun g hm => hg g (List.mem_cons_of_mem _ hm)) (by simp; omega)]
    simp
/-- What Encode writes, Decode reads. -/
theorem dec_enc {l : List FieldR} (hg : ∀ f ∈ l, f.good ∧ f.s.size ≤ 262144) {s : ByteArray} (h : encP l = (s, 0)) : decP s = ⟨l, 0, 0⟩ := by
  unfold encP at h
  split at h
  · injection h with _ h; cases h
  · rename_i h1
    split at h
    · injection h with _ h; cases h
    · rename_i h2
      injection h with h _
      subst h
      unfold decP
      have e : (⟨(encB l).toArray⟩ : ByteArray).size = (encB l).length := by rw [← byL_len, byL_mk]
      rw [if_neg (by rw [e]; omega), decGo_round _ l [] _ (byL_mk _) hg (by simp; omega), List.nil_append]
end Go.Proofs.YtallnibjmffahaaGreatDoor

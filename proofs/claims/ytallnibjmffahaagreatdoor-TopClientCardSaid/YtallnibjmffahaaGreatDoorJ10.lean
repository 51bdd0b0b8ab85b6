/- Fields in memory; code.Encode. -/
import Derived.Test.YtallnibjmffahaaGreatDoorJ09
import Derived.Test.YtallnibjmffahaaGreatDoorJ07
import Derived.Laws.IdiomStrings
import Derived.BigRegion
import Derived.BigQuiet
import Derived.Deep.Cut
import Derived.Deep.CutRange
import Derived.Deep.RegionHeld3
set_option linter.unusedVariables false
set_option linter.unusedSimpArgs false
namespace Go.Proofs.YtallnibjmffahaaGreatDoor
open Go.RowKit

section
variable {P : Program} {ops : Array Oper} {o : Oper} {a : Act} {w : World} {K : Act → World → Prop} {Q : Exit → Act → World → Prop}
/-- append(b, s...), b an own row of bytes, in a region that draws. -/
theorem step_append_str {F : Prop} (hgd : o.guard = none) (sl x : Operand) (t u : TypeId) (ho : o.op = .call { callee := .builtin .append, args := #[sl, x], argTypes := #[t, u] })
    (base : Nat) (e : TypeId) (i : TypeInfo) (ht : P.underlying t = some (.slice e)) (hu : P.underlying u = some .string) (hi : P.info? e = some i) (hz : i.zero = some (.int .u8 0))
    (hsize : i.size = 1) (hby : i.bytes = 1)
    (v : Value) (n : Nat) (xs : List Value) (hs : a.eval sl = v) (hown : w.ownsRow base e 1 v n xs) (s : ByteArray) (hx : a.eval x = .string s)
    (h63 : n + s.size ≤ maxLen) (hbytes : n + s.size ≤ 140737488355328) (hbase : base ≤ w.heap.size)
    (hK : ∀ v' w', w'.ownsRow base e 1 v' (n + s.size) (xs ++ Lib.strCells s) → w.grownBy w' v.ownBlock → K (a.put o.dst v') w') : if Region.wanted o (yielded ops a.tmps) = true then Oper.wp P o a w K Q else F := by
  rw [if_pos (by simp [Region.wanted, hgd])]
  obtain ⟨v', w', hr, h2, h3, h4⟩ := Lib.run_append_own_string (P := P) w base t u o.type e i ht hu hi hz hsize hby v n xs hown s h63 hbytes hbase
  unfold Oper.wp execOp
  simp only [ho, resolve, invoke, builtin, Sem.run_bind, Sem.run_pure, Result.andThen_ok, List.map_toArray, List.map_cons, List.map_nil, hs, hx, hr]
  exact hK _ _ h2 h3
end
structure FieldR where
  text : Bool
  n : Int
  s : ByteArray
instance : Inhabited FieldR := ⟨⟨false, 0, ⟨#[]⟩⟩⟩
def FieldR.enc (f : FieldR) : List Value := [.bool f.text, .int .i64 f.n, .string f.s]
def fieldCells (l : List FieldR) : List Value := l.flatMap FieldR.enc
theorem elt_field : Elt Tryz.prog 90 94 3 32 := Elt.mk' Tryz.underlying90 (z := .agg #[.bool false, .int .i64 0, .string ⟨#[]⟩]) (by kernel_rfl) rfl (by omega)
theorem field_one (l : List FieldR) : ∀ u ∈ fieldCells l, u.oneCell' = true := by
  intro u hu
  unfold fieldCells at hu
  obtain ⟨r, _, hr⟩ := List.mem_flatMap.1 hu
  simp only [FieldR.enc, List.mem_cons, List.not_mem_nil, or_false] at hr
  rcases hr with rfl | rfl | rfl <;> rfl
/-- A number's field, a text's. -/
def numF (n : Nat) : FieldR := ⟨false, n, ⟨#[]⟩⟩
def txtF (s : ByteArray) : FieldR := ⟨true, 0, s⟩
/-- Fields that Encode takes, as they are used here: a number from 0 on, a text. -/
def FieldR.good (f : FieldR) : Prop := (f.text = false ∧ 0 ≤ f.n ∧ f.n < 9223372036854775808 ∧ f.s = ⟨#[]⟩) ∨ (f.text = true ∧ f.n = 0 ∧ f.s.size ≤ 1048576)
def FieldR.bytes (f : FieldR) : List UInt8 := if f.text then 84 :: (numB f.s.size ++ f.s.data.toList) else 78 :: numB f.n.toNat
def encB (l : List FieldR) : List UInt8 := l.flatMap FieldR.bytes
/-- What Encode answers: the bytes, or that they are too many. -/
def encP (l : List FieldR) : ByteArray × Int := if 4096 < l.length then (⟨#[]⟩, 2) else if 262144 < (encB l).length then (⟨#[]⟩, 2) else (⟨(encB l).toArray⟩, 0)
theorem encB_snoc (l : List FieldR) (f : FieldR) : encB (l ++ [f]) = encB l ++ f.bytes := by simp [encB]
theorem encB_take {l : List FieldR} {k : Nat} (hk : k < l.length) : encB (l.take (k + 1)) = encB (l.take k) ++ l[k].bytes := by rw [List.take_succ_eq_append_getElem hk, encB_snoc]
theorem encB_le (l : List FieldR) (k : Nat) : (encB (l.take k)).length ≤ (encB l).length := by
  have : encB l = encB (l.take k) ++ encB (l.drop k) := by
    unfold encB
    rw [← List.flatMap_append, List.take_append_drop]
  rw [this, List.length_append]
  omega

set_option maxRecDepth 100000 in
/-- string(b), b an own row of bytes. -/
theorem conv_own {base : Nat} {w : World} {A : Option Addr} {n c : Nat} {l : List UInt8} (h : w.ownsRow base 5 1 (.slice A n c) n (u8s l)) : (convert 137 9 (.slice A n c)).run Tryz.prog w = .ok (.string ⟨l.toArray⟩) w := by
  have hl : l.length = n := by have := h.1; rw [u8s_len] at this; omega
  rcases h.2 with ⟨h1, h2⟩ | ⟨g, cap, cur, hv, hb, hh, _⟩
  · injection h1 with e1 e2 e3
    subst e1 e2 e3
    have hl0 : l = [] := List.eq_nil_of_length_eq_zero hl
    subst hl0
    rw [run_convert_bytes_string w 137 9 5 none 0 0 Tryz.underlying137 Tryz.underlying5 Tryz.underlying9]
    rfl
  · injection hv with e1 _ e3
    subst e1 e3
    have hc := h.cells (g := g) rfl
    subst hl
    refine run_convert_bytes_back (P := Tryz.prog) w 137 9 5 ⟨g, 0, none⟩ c l Tryz.underlying137 Tryz.underlying5 Tryz.underlying9 (fun j hj => ?_)
    exact hc j _ (by simp [u8s, List.getElem?_eq_getElem hj])

set_option maxHeartbeats 8000000 in
set_option maxRecDepth 100000 in
theorem Encode_calls {base : Nat} {w : World} {A : Option Addr} {n c : Nat} {l : List FieldR} (hr : Rd base 94 w 3 A n c (fieldCells l)) (hg : ∀ f ∈ l, f.good) (hbs : base ≤ w.heap.size) :
    Calls Tryz.prog 37 #[.slice A n c] w fun e w' => e = .returned (.tuple #[.string (encP l).1, .int .i64 (encP l).2]) ∧ Below w.heap.size w w' := by
  have hn := hr.count (enc := FieldR.enc) (fun _ => rfl) (by omega)
  have R := Asd.mk hr
  have N := Asd.mk hn
  have GD := Asd.mk hg
  clear hr hn hg
  go_enter Tryz.func37, Tryz.ntmps37
  by_cases h4 : 4096 < n
  · go_wp2_with fail
    go_ret2
    exact ⟨by unfold encP; rw [if_pos (by rw [N.out]; exact h4)]; rfl, Below.refl _ _⟩
  · go_wp2_with fail
    go_loopw [14] (fun s14 wr => ∃ k : Nat, s14 = .int .i64 k ∧ k ≤ n ∧ Asd (Below w.heap.size w wr)) (fun s14 _ => n - (intOf s14).toNat)
    case atStart => exact ⟨0, rfl, Nat.zero_le _, ⟨Below.refl _ _⟩⟩
    case round =>
      obtain ⟨k, rfl, hk, BW⟩ := hrel
      by_cases hlt : k < n
      · obtain ⟨b, off, rfl, hbl, hil, hcs⟩ := (R.out.below BW.out).at_enc (enc := FieldR.enc) (fun _ => rfl) (by omega) hlt
        have hcap : k < c := Nat.lt_of_lt_of_le hlt R.out.cap
        have hgood := GD.out l[k] (List.getElem_mem hil)
        generalize l[k] = f at hcs hgood
        obtain ⟨ft, fn, fs⟩ := f
        have c0 := hcs 0 _ rfl
        have c1 := hcs 1 _ rfl
        have c2 := hcs 2 _ rfl
        rw [Nat.add_zero] at c0
        have B2 : Asd (Below w.heap.size w (wr.alloc (.cells #[.bool ft, .int .i64 fn, .string fs] 94))) := ⟨BW.out.alloc BW.out.size _⟩
        rcases hgood with ⟨h1, h2, h3, h5⟩ | ⟨h1, h2, h3⟩
        · simp only at h1 h2 h3 h5
          subst h1 h5
          clear hcs
          go_wp2_with fail
          go_roundw
          case measure => simp [intOf]; omega
          case rel => exact ⟨k + 1, by go_num, by omega, B2⟩
        · simp only at h1 h2 h3
          subst h1 h2
          clear hcs
          go_wp2_with fail
          go_roundw
          case measure => simp [intOf]; omega
          case rel => exact ⟨k + 1, by go_num, by omega, B2⟩
      · obtain rfl : k = n := by omega
        clear hlt hk
        have R1 := Asd.mk (fun W (h : Below wr.heap.size wr W) => R.out.below (BW.out.trans (h.mono BW.out.size)))
        have Z1 : Asd (base ≤ wr.heap.size) := ⟨Nat.le_trans hbs BW.out.size⟩
        go_wp2_with fail
        obtain ⟨i0, hi0, hz0, hs0, hb0⟩ := u8_info
        have I0 := Asd.mk hi0
        have ZZ := Asd.mk hz0
        have S0 := Asd.mk hs0
        have Y0 := Asd.mk hb0
        clear hi0 hz0 hs0 hb0
        have ob : Asd (w.heap.size ≤ wr.heap.size) := ⟨BW.out.size⟩
        obtain ⟨w1, hw1⟩ : ∃ w1, w1 = wr := ⟨_, rfl⟩
        rw [← hw1]
        rw [← hw1] at R1 Z1 BW ob
        clear hw1
        go_loopw [6, 38] (fun s6 s38 wr => ∃ (q m d : Nat) (B : Option Addr), s38 = .int .i64 q ∧ s6 = .slice B m d ∧ q ≤ k ∧ m ≤ 262144 ∧ Asd (m = (encB (l.take q)).length) ∧ Asd (Below w.heap.size w wr) ∧ Asd (wr.ownsRow w.heap.size 5 1 (.slice B m d) m (u8s (encB (l.take q))))) (fun _ s38 _ => k - (intOf s38).toNat)
        case atStart => exact ⟨0, 0, 0, none, rfl, rfl, Nat.zero_le _, by omega, ⟨by simp [encB]⟩, BW, ⟨by simpa [encB, u8s] using World.ownsRow_nil _ _ _ _⟩⟩
        case round =>
          obtain ⟨q, m, d, B, rfl, rfl, hq, hm, MM, BV, OV⟩ := hrel
          by_cases hlt : q < k
          · obtain ⟨b, off, rfl, hbl, hil, hcs⟩ := (R.out.below BV.out).at_enc (enc := FieldR.enc) (fun _ => rfl) (by omega) hlt
            have hcap : q < c := Nat.lt_of_lt_of_le hlt R.out.cap
            have hgood := GD.out l[q] (List.getElem_mem hil)
            have TK := Asd.mk (encB_take hil)
            generalize l[q] = f at hcs hgood TK
            obtain ⟨ft, fn, fs⟩ := f
            have c0 := hcs 0 _ rfl
            have c1 := hcs 1 _ rfl
            have c2 := hcs 2 _ rfl
            rw [Nat.add_zero] at c0
            have B2 : Asd (Below w.heap.size w (wr.alloc (.cells #[.bool ft, .int .i64 fn, .string fs] 94))) := ⟨BV.out.alloc BV.out.size _⟩
            have O2 : Asd ((wr.alloc (.cells #[.bool ft, .int .i64 fn, .string fs] 94)).ownsRow w.heap.size 5 1 (.slice B m d) m (u8s (encB (l.take q)))) := ⟨OV.out.alloc _⟩
            have H2 : Asd ((wr.alloc (.cells #[.bool ft, .int .i64 fn, .string fs] 94)).heap[wr.heap.size]? = some (.cells #[.bool ft, .int .i64 fn, .string fs] 94 (0, 0))) := ⟨heap_alloc_new wr _⟩
            go_upto_region 13 with fail
            obtain ⟨xb, hxb⟩ : ∃ xb, xb = wr.heap.size := ⟨_, rfl⟩
            rw [← hxb] at H2 ⊢
            generalize wr.alloc (.cells #[.bool ft, .int .i64 fn, .string fs] 94) = w2 at B2 O2 H2 ⊢
            clear hxb c0 c1 c2 hcs hbl BV OV
            have y0 := (cell_of_row w2 xb 0 _ _ _ H2.out).trans rfl
            have y1 := (cell_of_row w2 xb 1 _ _ _ H2.out).trans rfl
            have y2 := (cell_of_row w2 xb 2 _ _ _ H2.out).trans rfl
            rcases hgood with ⟨h1, h2, h3, h5⟩ | ⟨h1, h2, h3⟩
            · simp only at h1 h2 h3 h5
              subst h1 h5
              obtain ⟨x, rfl⟩ : ∃ x : Nat, fn = x := ⟨fn.toNat, by omega⟩
              have hx : x < 9223372036854775808 := by omega
              clear h2 h3
              go_upto_if 43 with fail
              go_cut [6] from 42 to 63 (fun s6 wc => ∃ (mm c5 : Nat) (A5 : Option Addr), s6 = .slice A5 mm c5 ∧ Asd (mm = (encB (l.take (q + 1))).length) ∧ Asd (Below w.heap.size w wc) ∧ Asd (wc.ownsRow w.heap.size 5 1 (.slice A5 mm c5) mm (u8s (encB (l.take (q + 1))))))
              case first =>
                go_upto_region 15 with fail
                have al2 := fun o => B2.out.alloc B2.out.size o
                have hz := B2.out.size
                go_region_held3 (fun w' => w'.cell? ⟨xb, 1, none⟩ = some (.int .i64 (x : Int))) (go_keep) (first
                  | (refine step_append_mine (base := w.heap.size) (own := w.heap.size) (n := m) (m := 1) (v := .slice B m d) (xs := u8s (encB (l.take q))) (ys := u8s [78]) rfl (.tmp 54) (.tmp 55) 137 rfl elt_u8 rfl rfl (own_dr (O2.out.alloc _)) (rd_dr (Rd.new_ rfl rfl)) (u8s_one _) (by simp only [maxLen]; omega) (by omega) (by simp; omega) ?_
                     intro v3 w3 O3' G3'
                     obtain ⟨A3, c3, rfl, _⟩ := Rd.of_own (base := w.heap.size) O3'
                     rw [u8s_app] at O3'
                     have K3' : Kp 5 w.heap.size w2 w3 := (((Kp.refl _ _ w2).alloc hz _).drew).trans (Kp.own (own_dr (O2.out.alloc _)) G3' (by simp; omega))
                     have O3 := Asd.mk O3'
                     have K3 := Asd.mk K3'
                     have z1 := (cell_of_row w3 xb 1 _ _ _ (K3'.blk H2.out (by decide))).trans rfl
                     clear O3' G3' K3')
                  | (go_at_call 59
                     refine (number_calls x hx O3.out (Nat.le_trans hz K3.out.size) (by omega)).mono ?_
                     rintro e w4 ⟨A4, c4, rfl, hO4, hK4⟩
                     have O4 := Asd.mk hO4
                     have K4 := Asd.mk (K3.out.trans hK4)
                     have z14 := (cell_of_row w4 xb 1 _ _ _ (K4.out.blk H2.out (by decide))).trans rfl
                     clear hO4 hK4))
                go_wp2_with fail
                go_meet
                case rel =>
                  have eb : encB (l.take q) ++ [78] ++ numB x = encB (l.take (q + 1)) := by rw [TK.out]; simp [FieldR.bytes]
                  have hO := O4.out
                  rw [eb] at hO
                  exact ⟨_, c4, A4, rfl, ⟨by rw [← eb]; have := MM.out; simp; omega⟩, ⟨B2.out.trans K4.out.below⟩, ⟨hO⟩⟩
              case rest =>
                obtain ⟨mm, c5, A5, rfl, EQ, B5, O5⟩ := hcut
                have e5 : mm = (encB (l.take (q + 1))).length := EQ.out
                by_cases hbig : 262144 < mm
                · have EP : Asd (encP l = (⟨#[]⟩, 2)) := ⟨by
                    have := encB_le l (q + 1)
                    unfold encP
                    rw [if_neg (by rw [N.out]; exact h4), if_pos (by omega)]⟩
                  clear e5
                  go_wp2_with fail
                  go_ret2
                  exact ⟨by rw [EP.out]; rfl, B5.out⟩
                · have M5 := Asd.mk e5
                  clear e5
                  go_wp2_with fail
                  go_roundw
                  case measure => simp [intOf]; omega
                  case rel => exact ⟨q + 1, mm, c5, A5, by go_num, rfl, by omega, by omega, M5, B5, O5⟩
            · simp only at h1 h2 h3
              subst h1 h2
              go_upto_if 43 with fail
              go_cut [6] from 42 to 63 (fun s6 wc => ∃ (mm c5 : Nat) (A5 : Option Addr), s6 = .slice A5 mm c5 ∧ Asd (mm = (encB (l.take (q + 1))).length) ∧ Asd (Below w.heap.size w wc) ∧ Asd (wc.ownsRow w.heap.size 5 1 (.slice A5 mm c5) mm (u8s (encB (l.take (q + 1))))))
              case first =>
                go_upto_region 14 with fail
                have al2 := fun o => B2.out.alloc B2.out.size o
                have hz := B2.out.size
                go_region_held3 (fun w' => w'.cell? ⟨xb, 2, none⟩ = some (.string fs)) (go_keep) (first
                  | (refine step_append_mine (base := w.heap.size) (own := w.heap.size) (n := m) (m := 1) (v := .slice B m d) (xs := u8s (encB (l.take q))) (ys := u8s [84]) rfl (.tmp 44) (.tmp 45) 137 rfl elt_u8 rfl rfl (own_dr (O2.out.alloc _)) (rd_dr (Rd.new_ rfl rfl)) (u8s_one _) (by simp only [maxLen]; omega) (by omega) (by simp; omega) ?_
                     intro v3 w3 O3' G3'
                     obtain ⟨A3, c3, rfl, _⟩ := Rd.of_own (base := w.heap.size) O3'
                     rw [u8s_app] at O3'
                     have K3' : Kp 5 w.heap.size w2 w3 := (((Kp.refl _ _ w2).alloc hz _).drew).trans (Kp.own (own_dr (O2.out.alloc _)) G3' (by simp; omega))
                     have O3 := Asd.mk O3'
                     have K3 := Asd.mk K3'
                     have z1 := (cell_of_row w3 xb 2 _ _ _ (K3'.blk H2.out (by decide))).trans rfl
                     clear O3' G3' K3')
                  | (go_at_call 59
                     refine (number_calls fs.size (by omega) O3.out (Nat.le_trans hz K3.out.size) (by omega)).mono ?_
                     rintro e w4 ⟨A4, c4, rfl, hO4, hK4⟩
                     have O4 := Asd.mk hO4
                     have K4 := Asd.mk (K3.out.trans hK4)
                     have z14 := (cell_of_row w4 xb 2 _ _ _ (K4.out.blk H2.out (by decide))).trans rfl
                     clear hO4 hK4)
                  | (refine step_append_str rfl (.tmp 50) (.tmp 52) 137 9 rfl w.heap.size 5 i0 Tryz.underlying137 Tryz.underlying9 I0.out ZZ.out S0.out Y0.out (.slice A4 (m + 1 + (numB fs.size).length) c4) (m + 1 + (numB fs.size).length) (u8s (encB (l.take q) ++ [84] ++ numB fs.size)) rfl O4.out fs rfl (by have := lenB_8 (n := fs.size) (by omega); rw [numB_len]; simp only [maxLen]; omega) (by have := lenB_8 (n := fs.size) (by omega); rw [numB_len]; omega) (Nat.le_trans hz K4.out.size) ?_
                     intro v5 w5 O5' G5'
                     obtain ⟨A5, c5, rfl, _⟩ := Rd.of_own (base := w.heap.size) O5'
                     rw [u8s_str, u8s_app] at O5'
                     have K5' : Kp 5 w.heap.size w2 w5 := K4.out.trans (Kp.own O4.out G5' (Nat.le_trans hz K4.out.size))
                     have O5 := Asd.mk O5'
                     have K5 := Asd.mk K5'
                     have z5 := (cell_of_row w5 xb 2 _ _ _ (K5'.blk H2.out (by decide))).trans rfl
                     clear O5' G5' K5'))
                go_wp2_with fail
                go_meet
                case rel =>
                  have eb : encB (l.take q) ++ [84] ++ numB fs.size ++ fs.data.toList = encB (l.take (q + 1)) := by rw [TK.out]; simp [FieldR.bytes]
                  have e6 : fs.data.toList.length = fs.size := by rw [Array.length_toList]; rfl
                  have el : m + 1 + (numB fs.size).length + fs.size = (encB (l.take (q + 1))).length := by
                    rw [← eb, List.length_append, List.length_append, List.length_append, e6, List.length_singleton]
                    have := MM.out
                    omega
                  have hO := O5.out
                  rw [eb] at hO
                  exact ⟨_, c5, A5, rfl, ⟨el⟩, ⟨B2.out.trans K5.out.below⟩, ⟨hO⟩⟩
              case rest =>
                obtain ⟨mm, c5, A5, rfl, EQ, B5, O5⟩ := hcut
                have e5 : mm = (encB (l.take (q + 1))).length := EQ.out
                by_cases hbig : 262144 < mm
                · have EP : Asd (encP l = (⟨#[]⟩, 2)) := ⟨by
                    have := encB_le l (q + 1)
                    unfold encP
                    rw [if_neg (by rw [N.out]; exact h4), if_pos (by omega)]⟩
                  clear e5
                  go_wp2_with fail
                  go_ret2
                  exact ⟨by rw [EP.out]; rfl, B5.out⟩
                · have M5 := Asd.mk e5
                  clear e5
                  go_wp2_with fail
                  go_roundw
                  case measure => simp [intOf]; omega
                  case rel => exact ⟨q + 1, mm, c5, A5, by go_num, rfl, by omega, by omega, M5, B5, O5⟩
          · obtain rfl : q = k := by omega
            have ea : l.take q = l := List.take_of_length_le (by rw [N.out]; omega)
            rw [ea] at MM OV
            have hcv := conv_own OV.out
            have EP : Asd (encP l = (⟨(encB l).toArray⟩, 0)) := ⟨by
              unfold encP
              rw [if_neg (by rw [N.out]; exact h4), if_neg (by rw [← MM.out]; omega)]⟩
            clear ea
            go_wp2_with fail
            go_ret2
            exact ⟨by rw [EP.out]; rfl, BV.out⟩
end Go.Proofs.YtallnibjmffahaaGreatDoor

/- Bytes of numbers and fields: plain, and how they are written. -/
import Derived.Test.YtallnibjmffahaaGreatDoorProg
import Derived.Test.YtallnibjmffahaaGreatDoorJ01
import Derived.Test.YtallnibjmffahaaGreatDoorJ03
import Derived.Test.YtallnibjmffahaaGreatDoorJ00
import Derived.Lib.AppendStr
import Derived.Deep.Cut
import Derived.Deep.RegionHeld3
set_option linter.unusedVariables false
set_option linter.unusedSimpArgs false
namespace Go.Proofs.YtallnibjmffahaaGreatDoor
open Go.RowKit

/-- Bytes as cells. -/
def u8s (l : List UInt8) : List Value := l.map fun b => .int .u8 (b.toNat : Int)
theorem u8s_len (l : List UInt8) : (u8s l).length = l.length := by simp [u8s]
theorem u8s_app (l r : List UInt8) : u8s l ++ u8s r = u8s (l ++ r) := by simp [u8s]
theorem u8s_one (l : List UInt8) : ∀ u ∈ u8s l, u.oneCell' = true := by
  intro u hu
  simp only [u8s, List.mem_map] at hu
  obtain ⟨b, _, rfl⟩ := hu
  rfl
theorem u8s_str (s : ByteArray) : Lib.strCells s = u8s s.data.toList := rfl
theorem u8s_nat (n : Nat) : [(.int .u8 ((n % 256 : Nat) : Int) : Value)] = u8s [UInt8.ofNat n] := by
  simp [u8s]
theorem u8s_int (y : Nat) : [(.int .u8 ((y : Int) % 256) : Value)] = u8s [UInt8.ofNat y] := by
  simp [u8s]
theorem u8s_small {k : Nat} (h : k < 256) : [(.int .u8 (k : Int) : Value)] = u8s [UInt8.ofNat k] := by
  simp [u8s]
  omega
/-- So many bytes of a number, the lowest first. -/
def lowB : Nat → Nat → List UInt8
  | 0, _ => []
  | m + 1, n => UInt8.ofNat n :: lowB m (n / 256)
theorem lowB_len (m n : Nat) : (lowB m n).length = m := by
  induction m generalizing n with
  | zero => rfl
  | succ m ih => simp [lowB, ih]
theorem lowB_snoc (m n : Nat) : lowB (m + 1) n = lowB m n ++ [UInt8.ofNat (n / 256 ^ m)] := by
  induction m generalizing n with
  | zero => simp [lowB]
  | succ m ih =>
    rw [lowB, ih, lowB]
    simp [Nat.div_div_eq_div_mul, Nat.pow_succ, Nat.mul_comm]
/-- How many bytes a number has. -/
def lenB (n : Nat) : Nat := if h : n = 0 then 0 else lenB (n / 256) + 1
decreasing_by omega
theorem lenB_zero : lenB 0 = 0 := by unfold lenB; simp
theorem lenB_pos {n : Nat} (h : 0 < n) : lenB n = lenB (n / 256) + 1 := by
  rw [lenB]
  rw [dif_neg (by omega)]
theorem lenB_le : ∀ (k n : Nat), n < 256 ^ k → lenB n ≤ k := by
  intro k
  induction k with
  | zero => intro n h; simp at h; rw [h, lenB_zero]; omega
  | succ k ih =>
    intro n h
    by_cases h0 : n = 0
    · rw [h0, lenB_zero]; omega
    · rw [lenB_pos (by omega)]
      have := ih (n / 256) (by rw [Nat.pow_succ] at h; omega)
      omega
theorem lenB_8 {n : Nat} (h : n < 18446744073709551616) : lenB n ≤ 8 := lenB_le 8 n (by simpa using h)
def numB (n : Nat) : List UInt8 := UInt8.ofNat (lenB n) :: lowB (lenB n) n
theorem numB_len (n : Nat) : (numB n).length = lenB n + 1 := by simp [numB, lowB_len]
theorem elt_u8 : Elt Tryz.prog 137 5 1 1 := Elt.mk' Tryz.underlying137 (z := .int .u8 0) (by kernel_rfl) rfl (by omega)
theorem u8_info : ∃ i, Tryz.prog.info? 5 = some i ∧ i.zero = some (.int .u8 0) ∧ i.size = 1 ∧ i.bytes = 1 := by
  have h : (Tryz.prog.info? 5).map (fun i => (i.zero, i.size, i.bytes)) = some (some (Value.int .u8 0), 1, 1) := by kernel_rfl
  cases hi : Tryz.prog.info? 5 with
  | none => rw [hi] at h; cases h
  | some i =>
    rw [hi] at h
    simp only [Option.map_some, Option.some.injEq, Prod.mk.injEq] at h
    exact ⟨i, rfl, h.1, h.2.1, h.2.2⟩

theorem own_istM {w : World} {b e k n : Nat} {v : Value} {xs : List Value} (h : w.ownsRow b e k v n xs) : ∀ j, v.ownBlock = some j → IsT w j e ∧ b ≤ j := by
  intro j hj
  rcases h.2 with ⟨rfl, _⟩ | ⟨g, cap, cur, rfl, hb, hgg, rest⟩
  · simp [Value.ownBlock] at hj
  · simp [Value.ownBlock] at hj
    subst hj
    exact ⟨⟨_, _, hgg⟩, hb⟩
theorem own_geM {w : World} {own T k n : Nat} {v : Value} {xs : List Value} (h : w.ownsRow own T k v n xs) {j : Nat} (hj : v.ownBlock = some j) : own ≤ j := (own_istM h j hj).2
theorem gb_cell' (W : World) (b o : Nat) (v : Value) : W.grownBy (W.setCell ⟨b, o, none⟩ v) (some b) :=
  ⟨rfl, rfl, rfl, by simp [World.setCell], fun k hk hne => Below.heap_setCell W ⟨b, o, none⟩ v k (fun e => hne (by rw [e]))⟩
theorem own_dr {w : World} {b e k n : Nat} {v : Value} {xs : List Value} (h : w.ownsRow b e k v n xs) : w.drew.ownsRow b e k v n xs := h
theorem dr_below (W : World) : Below W.heap.size W W.drew := ⟨rfl, rfl, rfl, Nat.le_refl _, fun _ _ => rfl⟩
theorem rd_dr {base T k n c : Nat} {w : World} {A : Option Addr} {xs : List Value} (h : Rd base T w k A n c xs) : Rd base T w.drew k A n c xs := h.below (dr_below w)
/-- What stays when rows of one type, that the call has made, are written. -/
structure Kp (T : TypeId) (base : Nat) (w w' : World) : Prop where
  below : Below base w w'
  rest : ∀ (b : Nat) (o : Obj), w.heap[b]? = some o → (∀ cs fr, o ≠ .cells cs T fr) → w'.heap[b]? = some o
section
variable {T U : TypeId} {base : Nat} {w w1 w' : World}
theorem Kp.refl (T : TypeId) (base : Nat) (w : World) : Kp T base w w := ⟨Below.refl _ _, fun _ _ h _ => h⟩
theorem Kp.trans (h : Kp T base w w1) (k : Kp T base w1 w') : Kp T base w w' := ⟨h.below.trans k.below, fun b o hb ho => k.rest b o (h.rest b o hb ho) ho⟩
theorem Kp.of_below (h : Below w.heap.size w w') (hb : base ≤ w.heap.size) : Kp T base w w' := ⟨h.mono hb, fun b o hb ho => by rw [h.block b (Array.getElem?_eq_some_iff.1 hb).1]; exact hb⟩
theorem Kp.alloc (h : Kp T base w w1) (hb : base ≤ w1.heap.size) (o : Obj) : Kp T base w (w1.alloc o) := h.trans (Kp.of_below ((Below.refl _ _).alloc (Nat.le_refl _) o) hb)
theorem Kp.drew (h : Kp T base w w1) : Kp T base w w1.drew := ⟨h.below.drew, fun b o hb ho => h.rest b o hb ho⟩
theorem Kp.own {k n : Nat} {v : Value} {xs : List Value} (h : w.ownsRow base T k v n xs) (hg : w.grownBy w' v.ownBlock) (hb : base ≤ w.heap.size) : Kp T base w w' :=
  ⟨(Below.refl _ _).grown hg hb (fun j hj => own_geM h hj), fun b o hbo ho => by
    rw [hg.block b (Array.getElem?_eq_some_iff.1 hbo).1 (fun e => ?_)]
    · exact hbo
    · obtain ⟨⟨cs, fr, hc⟩, _⟩ := own_istM h b e.symm
      rw [hc] at hbo
      injection hbo with hbo
      exact ho cs fr hbo.symm⟩
theorem Kp.set_new (h : Kp T base w w1) {g : Nat} (hg : w.heap.size ≤ g) (hb : base ≤ g) (j : Nat) (u : Value) : Kp T base w (w1.setCell ⟨g, j, none⟩ u) :=
  ⟨h.below.setCell hb u, fun b o hbo ho => by
    have := (Array.getElem?_eq_some_iff.1 hbo).1
    rw [Below.heap_setCell w1 ⟨g, j, none⟩ u b (by simp only; omega)]
    exact h.rest b o hbo ho⟩
theorem Kp.size (h : Kp T base w w') : w.heap.size ≤ w'.heap.size := h.below.size
theorem Kp.rd {U : TypeId} {k n c : Nat} {A : Option Addr} {xs : List Value} (h : Kp T base w w') (hr : Rd base U w k A n c xs) (hU : U ≠ T) : Rd base U w' k A n c xs :=
  hr.keepT h.size (fun b hb => h.below.block b hb) (fun b cs fr hb => by rw [hb]; exact h.rest b _ hb (fun cs' fr' e => by injection e with _ e; exact hU e))
theorem Kp.blk (h : Kp T base w w') {g : Nat} {cs : Array Value} {fr : Nat × Nat} (hb : w.heap[g]? = some (.cells cs U fr)) (hU : U ≠ T) : w'.heap[g]? = some (.cells cs U fr) :=
  h.rest g _ hb (fun cs' fr' e => by injection e with _ e; exact hU e)
end
/-- Bytes appended to an own row: what comes of it. -/
def Put (base : Nat) (w : World) (n : Nat) (l ys : List UInt8) (e : Ending) (w' : World) : Prop :=
  ∃ A' c', e = .returned (.slice A' (n + ys.length) c') ∧ w'.ownsRow base 5 1 (.slice A' (n + ys.length) c') (n + ys.length) (u8s (l ++ ys)) ∧ Kp 5 base w w'
theorem shift8 (x k : Nat) : x / 256 ^ k / 256 = x / 256 ^ (k + 1) := by rw [Nat.div_div_eq_div_mul, Nat.pow_succ]

set_option maxHeartbeats 4000000 in
set_option maxRecDepth 100000 in
theorem onto_calls {base : Nat} {w : World} {A : Option Addr} {n c : Nat} {l : List UInt8} (x m : Nat) (hx : x < 18446744073709551616) (hm : m ≤ 8) (ho : w.ownsRow base 5 1 (.slice A n c) n (u8s l)) (hbs : base ≤ w.heap.size) (hn : n ≤ 1000000) :
    Calls Tryz.prog 91 #[.agg #[.int .u64 x, .int .i64 m], .slice A n c] w (Put base w n l (lowB m x)) := by
  have O0 : Asd ((w.alloc (.cells #[.int .u64 x, .int .i64 m] 172)).ownsRow base 5 1 (.slice A n c) n (u8s (l ++ lowB 0 x))) := ⟨by simpa [lowB] using ho.alloc _⟩
  have K0 : Asd (Kp 5 base w (w.alloc (.cells #[.int .u64 x, .int .i64 m] 172))) := ⟨(Kp.refl _ _ _).alloc hbs _⟩
  have H0 : Asd ((w.alloc (.cells #[.int .u64 x, .int .i64 m] 172)).heap[w.heap.size]? = some (.cells #[.int .u64 (x / 256 ^ 0 : Nat), .int .i64 m] 172 (0, 0))) := ⟨by simpa using heap_alloc_new w _⟩
  clear ho
  go_enter Tryz.func91, Tryz.ntmps91
  go_wp2_with fail
  go_loopw [1, 7] (fun s1 s7 wr => ∃ (k : Nat) (A1 : Option Addr) (c1 : Nat), s7 = .int .i64 k ∧ s1 = .slice A1 (n + k) c1 ∧ k ≤ m ∧ Asd (wr.ownsRow base 5 1 (.slice A1 (n + k) c1) (n + k) (u8s (l ++ lowB k x))) ∧ Asd (Kp 5 base w wr) ∧ Asd (wr.heap[w.heap.size]? = some (.cells #[.int .u64 (x / 256 ^ k : Nat), .int .i64 m] 172 (0, 0)))) (fun _ s7 _ => m - (intOf s7).toNat)
  case atStart => exact ⟨0, A, c, rfl, rfl, Nat.zero_le _, O0, K0, H0⟩
  case round =>
    obtain ⟨k, A1, c1, rfl, rfl, hk, OW, KW, HW⟩ := hrel
    clear O0 K0 H0
    by_cases hlt : k < m
    · have z0 := (cell_of_row wr w.heap.size 0 _ _ _ HW.out).trans rfl
      have zf : wr.frozen? ⟨w.heap.size, 0, none⟩ = false := by simp [World.frozen?, HW.out]
      have hy : x / 256 ^ k < 18446744073709551616 := Nat.lt_of_le_of_lt (Nat.div_le_self _ _) hx
      have hs := shift8 x k
      have hl := lowB_snoc k x
      generalize x / 256 ^ k = y at z0 hy hs hl HW
      have HS := Asd.mk hs
      have HL := Asd.mk hl
      clear hs hl
      have hb2 : base ≤ wr.heap.size := Nat.le_trans hbs KW.out.size
      go_upto_region 4 with (at_builtin; refine wpList_append_mine (base := base) (own := base) (v := .slice A1 (n + k) c1) (n := n + k) (m := 1) (xs := u8s (l ++ lowB k x)) (ys := [.int .u8 ((y : Int) % 256)]) rfl (.tmp 9) (.tmp 13) 137 rfl elt_u8 rfl rfl (OW.out.alloc _) (Rd.new_ rfl rfl) (fun u hu => by simp at hu; subst hu; rfl) (by unfold maxLen; omega) (by omega) (by simp; omega) ?_; intro v2 w2 O2' G2'; obtain ⟨A2, c2, rfl, _⟩ := Rd.of_own (base := base) O2'; have K2' := (Kp.refl _ base wr).alloc hb2 (.cells #[.int .u8 ((y : Int) % 256)] 5) |>.trans (Kp.own (OW.out.alloc _) G2' (by simp; omega)); have O2 := Asd.mk O2'; have K2 := Asd.mk (KW.out.trans K2'); have H2 := Asd.mk (K2'.blk HW.out (by decide)); clear O2' G2' K2')
      have hx0 := HL.out
      have O3 : Asd (w2.ownsRow base 5 1 (.slice A2 (n + (k + 1)) c2) (n + (k + 1)) (u8s (l ++ lowB (k + 1) x))) := ⟨by
        have := O2.out
        rw [u8s_int, u8s_app, List.append_assoc, ← hx0, Nat.add_assoc] at this
        exact this⟩
      clear hx0 z0 zf O2
      have z0 := (cell_of_row w2 w.heap.size 0 _ _ _ H2.out).trans rfl
      have zf : w2.frozen? ⟨w.heap.size, 0, none⟩ = false := by simp [World.frozen?, H2.out]
      go_upto_region 5 with fail
      have H3 : Asd ((w2.setCell ⟨w.heap.size, 0, none⟩ (.int .u64 ((y : Int) / 256))).heap[w.heap.size]? = some (.cells #[.int .u64 (x / 256 ^ (k + 1) : Nat), .int .i64 m] 172 (0, 0))) := ⟨by
        rw [← HS.out]
        simp [World.setCell, Array.getElem?_modify, H2.out]⟩
      have K3 := Asd.mk (K2.out.set_new (Nat.le_refl _) hbs 0 (.int .u64 ((y : Int) / 256)))
      have O4 : Asd ((w2.setCell ⟨w.heap.size, 0, none⟩ (.int .u64 ((y : Int) / 256))).ownsRow base 5 1 (.slice A2 (n + (k + 1)) c2) (n + (k + 1)) (u8s (l ++ lowB (k + 1) x))) := ⟨O3.out.kept (gb_cell' _ _ _ _) (.inr fun e => by
        obtain ⟨h1, _⟩ := own_istM O3.out _ e
        obtain ⟨cs, fr, h2⟩ := h1
        rw [H2.out] at h2
        injection h2 with h2
        injection h2 with _ h2
        exact absurd h2 (by decide))⟩
      clear z0 zf H2 K2 O3
      generalize w2.setCell ⟨w.heap.size, 0, none⟩ (.int .u64 ((y : Int) / 256)) = w3 at H3 K3 O4 ⊢
      go_wp2_with fail
      go_roundw
      case measure => simp [intOf]; omega
      case rel => exact ⟨k + 1, A2, c2, by go_num, by simp [Nat.add_assoc], by omega, O4, K3, H3⟩
    · obtain rfl : k = m := by omega
      go_wp2_with fail
      go_ret
      exact ⟨A1, c1, by simp [lowB_len], by simpa [lowB_len] using OW.out, KW.out⟩

set_option maxHeartbeats 4000000 in
set_option maxRecDepth 100000 in
theorem low_calls {base : Nat} {w : World} {A : Option Addr} {n c : Nat} {l : List UInt8} (x m : Nat) (hx : x < 18446744073709551616) (hm : m ≤ 8) (ho : w.ownsRow base 5 1 (.slice A n c) n (u8s l)) (hbs : base ≤ w.heap.size) (hn : n ≤ 1000000) :
    Calls Tryz.prog 78 #[.slice A n c, .int .u64 x, .int .i64 m] w (Put base w n l (lowB m x)) := by
  have C := Asd.mk (onto_calls x m hx hm ho hbs hn)
  clear ho
  go_enter Tryz.func78, Tryz.ntmps78
  go_wp2_with fail
  refine C.out.mono ?_
  rintro e w' ⟨A', c', rfl, h2, h3⟩
  have H := Asd.mk (And.intro h2 h3)
  clear h2 h3
  go_wp2_with fail
  go_ret
  exact ⟨A', c', rfl, H.out.1, H.out.2⟩

set_option maxHeartbeats 4000000 in
set_option maxRecDepth 100000 in
theorem number_calls {base : Nat} {w : World} {A : Option Addr} {n c : Nat} {l : List UInt8} (x : Nat) (hx : x < 9223372036854775808) (ho : w.ownsRow base 5 1 (.slice A n c) n (u8s l)) (hbs : base ≤ w.heap.size) (hn : n ≤ 900000) :
    Calls Tryz.prog 59 #[.slice A n c, .int .i64 x] w (Put base w n l (numB x)) := by
  have O := Asd.mk ho
  clear ho
  go_enter Tryz.func59, Tryz.ntmps59
  go_wp2_with fail
  go_loopw [5, 6] (fun s5 s6 wr => ∃ (k y : Nat), s5 = .int .i64 k ∧ s6 = .int .u64 y ∧ y < 9223372036854775808 ∧ Asd (k + lenB y = lenB x) ∧ Asd (wr = w)) (fun _ s6 _ => (intOf s6).toNat)
  case atStart => exact ⟨0, x, rfl, by go_num, by omega, ⟨by omega⟩, ⟨rfl⟩⟩
  case round =>
    obtain ⟨k, y, rfl, rfl, hy, KY, HW⟩ := hrel
    have hw := HW.out
    subst hw
    clear HW
    have hl8 := lenB_8 (n := x) (by omega)
    have hk8 : k ≤ 8 := by have := KY.out; omega
    by_cases hlt : 0 < y
    · have hd : Asd (((y / 256 : Nat) : Int) = (y : Int) / 256) := ⟨by omega⟩
      have KZ : Asd (k + 1 + lenB (y / 256) = lenB x) := ⟨by rw [← KY.out, lenB_pos hlt]; omega⟩
      go_wp2_with fail
      go_roundw
      case measure => simp [intOf]; omega
      case rel => exact ⟨k + 1, y / 256, by go_num, by rw [hd.out], by omega, KZ, by first | exact ⟨rfl⟩ | exact ⟨trivial⟩⟩
    · obtain rfl : y = 0 := by omega
      have hk : k = lenB x := by have := KY.out; rw [lenB_zero] at this; omega
      have HK := Asd.mk hk
      clear hk
      go_wp2_with (at_builtin; refine wpList_append_mine (base := base) (own := base) (v := .slice A n c) (n := n) (m := 1) (xs := u8s l) (ys := [.int .u8 (k : Int)]) rfl (.tmp 15) (.tmp 18) 137 rfl elt_u8 rfl rfl (O.out.alloc _) (Rd.new_ rfl rfl) (fun u hu => by simp at hu; subst hu; rfl) (by unfold maxLen; omega) (by omega) (by simp; omega) ?_; intro v2 w2 O2' G2'; obtain ⟨A2, c2, rfl, _⟩ := Rd.of_own (base := base) O2'; have K2' := (Kp.refl 5 base wr).alloc hbs (.cells #[.int .u8 (k : Int)] 5) |>.trans (Kp.own (O.out.alloc _) G2' (by simp; omega)); rw [u8s_small (by omega), u8s_app] at O2'; have O2 := Asd.mk O2'; have K2 := Asd.mk K2'; clear O2' G2' K2')
      refine (low_calls x k (by omega) hk8 O2.out (Nat.le_trans hbs K2.out.size) (by omega)).mono ?_
      rintro e w3 ⟨A3, c3, rfl, hO3, hK3⟩
      have O3 := Asd.mk hO3
      have K3 := Asd.mk (K2.out.trans hK3)
      clear hO3 hK3
      go_wp2_with fail
      go_ret
      have e1 : n + 1 + (lowB k x).length = n + (numB x).length := by rw [lowB_len, numB_len, ← HK.out]; omega
      have e2 : l ++ [UInt8.ofNat k] ++ lowB k x = l ++ numB x := by rw [HK.out]; simp [numB]
      have hO := O3.out
      rw [e1, e2] at hO
      exact ⟨A3, c3, by rw [e1]; rfl, hO, K3.out⟩
end Go.Proofs.YtallnibjmffahaaGreatDoor

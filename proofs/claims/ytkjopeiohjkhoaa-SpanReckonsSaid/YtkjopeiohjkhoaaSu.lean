/- span: unions, meets, what is left, normal lists. -/
import Derived.Test.YtkjopeiohjkhoaaSw4
import Derived.Test.YtkjopeiohjkhoaaSw5
import Derived.Test.YtkjopeiohjkhoaaSs
set_option linter.unusedVariables false
set_option linter.unusedSimpArgs false
namespace Go.Proofs.Ytkjopeiohjkhoaa
open Go.RowKit

def orB (x y : Bool) : Bool := x || y
def andB (x y : Bool) : Bool := x && y
def notB (x y : Bool) : Bool := x && !y
theorem or_calls (W : World) (x y : Bool) : Calls Try.prog 26 #[.bool x, .bool y] W fun e w' => e = .returned (.bool (orB x y)) ∧ w' = W := by
  cases x <;> cases y <;>
    (go_enter Try.func26, Try.ntmps26
     go_wp2_with fail
     go_ret
     exact ⟨rfl, rfl⟩)
theorem and_calls (W : World) (x y : Bool) : Calls Try.prog 28 #[.bool x, .bool y] W fun e w' => e = .returned (.bool (andB x y)) ∧ w' = W := by
  cases x <;> cases y <;>
    (go_enter Try.func28, Try.ntmps28
     go_wp2_with fail
     go_ret
     exact ⟨rfl, rfl⟩)
theorem not_calls (W : World) (x y : Bool) : Calls Try.prog 29 #[.bool x, .bool y] W fun e w' => e = .returned (.bool (notB x y)) ∧ w' = W := by
  cases x <;> cases y <;>
    (go_enter Try.func29, Try.ntmps29
     go_wp2_with fail
     go_ret
     exact ⟨rfl, rfl⟩)
theorem Union_calls {base : Nat} {w : World} {A B : Option Addr} {n c m d : Nat} {a b : List SpanR} (ha : Rd base 35 w 2 A n c (sCells a)) (hb : Rd base 35 w 2 B m d (sCells b)) (hbs : base ≤ w.heap.size) :
    Calls Try.prog 15 #[.slice A n c, .slice B m d] w (SwPost orB w a b) := by
  have H := Asd.mk (sweep_calls sort_spec (enters_of Try.func26 (by kernel_rfl) rfl) (rf := orB) rfl or_calls ha hb hbs)
  clear ha hb hbs
  go_enter Try.func15, Try.ntmps15
  go_wp2_with fail
  refine H.out.mono ?_
  rintro e w1 ⟨P, np, cp, l, err, rfl, hb1, hO, hr⟩
  have B1 := Asd.mk hb1
  have O1 := Asd.mk hO
  have R1 := Asd.mk hr
  clear hb1 hO hr
  go_wp2_with fail
  go_ret2
  exact ⟨P, np, cp, l, err, rfl, B1.out, O1.out, R1.out⟩
theorem Meet_calls {base : Nat} {w : World} {A B : Option Addr} {n c m d : Nat} {a b : List SpanR} (ha : Rd base 35 w 2 A n c (sCells a)) (hb : Rd base 35 w 2 B m d (sCells b)) (hbs : base ≤ w.heap.size) :
    Calls Try.prog 16 #[.slice A n c, .slice B m d] w (SwPost andB w a b) := by
  have H := Asd.mk (sweep_calls sort_spec (enters_of Try.func28 (by kernel_rfl) rfl) (rf := andB) rfl and_calls ha hb hbs)
  clear ha hb hbs
  go_enter Try.func16, Try.ntmps16
  go_wp2_with fail
  refine H.out.mono ?_
  rintro e w1 ⟨P, np, cp, l, err, rfl, hb1, hO, hr⟩
  have B1 := Asd.mk hb1
  have O1 := Asd.mk hO
  have R1 := Asd.mk hr
  clear hb1 hO hr
  go_wp2_with fail
  go_ret2
  exact ⟨P, np, cp, l, err, rfl, B1.out, O1.out, R1.out⟩
theorem Minus_calls {base : Nat} {w : World} {A B : Option Addr} {n c m d : Nat} {a b : List SpanR} (ha : Rd base 35 w 2 A n c (sCells a)) (hb : Rd base 35 w 2 B m d (sCells b)) (hbs : base ≤ w.heap.size) :
    Calls Try.prog 17 #[.slice A n c, .slice B m d] w (SwPost notB w a b) := by
  have H := Asd.mk (sweep_calls sort_spec (enters_of Try.func29 (by kernel_rfl) rfl) (rf := notB) rfl not_calls ha hb hbs)
  clear ha hb hbs
  go_enter Try.func17, Try.ntmps17
  go_wp2_with fail
  refine H.out.mono ?_
  rintro e w1 ⟨P, np, cp, l, err, rfl, hb1, hO, hr⟩
  have B1 := Asd.mk hb1
  have O1 := Asd.mk hO
  have R1 := Asd.mk hr
  clear hb1 hO hr
  go_wp2_with fail
  go_ret2
  exact ⟨P, np, cp, l, err, rfl, B1.out, O1.out, R1.out⟩
theorem Normal_calls {base : Nat} {w : World} {A : Option Addr} {n c : Nat} {a : List SpanR} (ha : Rd base 35 w 2 A n c (sCells a)) (hbs : base ≤ w.heap.size) :
    Calls Try.prog 12 #[.slice A n c] w (SwPost orB w a []) := by
  have H := Asd.mk (Union_calls ha (Rd.none_ (base := base)) hbs (B := none) (m := 0) (d := 0) (b := []))
  clear ha hbs
  go_enter Try.func12, Try.ntmps12
  go_wp2_with fail
  refine H.out.mono ?_
  rintro e w1 ⟨P, np, cp, l, err, rfl, hb1, hO, hr⟩
  have B1 := Asd.mk hb1
  have O1 := Asd.mk hO
  have R1 := Asd.mk hr
  clear hb1 hO hr
  go_wp2_with fail
  go_ret2
  exact ⟨P, np, cp, l, err, rfl, B1.out, O1.out, R1.out⟩

/-- A list of at most N spans that may be. -/
def Good (N : Nat) (l : List SpanR) : Prop := l.length ≤ N ∧ ∀ s ∈ l, spOk s = true
theorem Good.nil (N : Nat) : Good N [] := ⟨Nat.zero_le _, fun _ h => (by cases h)⟩
theorem Good.mono {N M : Nat} {l : List SpanR} (h : Good N l) (hm : N ≤ M) : Good M l := ⟨Nat.le_trans h.1 hm, h.2⟩
theorem nrm_ok : ∀ {l : List SpanR}, Nrm l → ∀ s ∈ l, OkS s
  | [], _, _, hs => (by cases hs)
  | t :: r, h, s, hs => by
    rcases List.mem_cons.1 hs with rfl | h1
    · exact h.1
    · exact nrm_ok h.2.2.2 s h1
theorem Made.good {rf : Bool → Bool → Bool} {a b out : List SpanR} {N M : Nat} (h : Made rf a b out) (ha : Good N a) (hb : Good M b) : Good (2 * (N + M)) out := by
  have hall : ∀ t ∈ a ++ b, t.from_.size ≤ 64 ∧ t.to_.size ≤ 64 := fun t ht => by
    rcases List.mem_append.1 ht with h1 | h1
    · have := (spOk_iff t).1 (ha.2 t h1); exact ⟨this.1, this.2.1⟩
    · have := (spOk_iff t).1 (hb.2 t h1); exact ⟨this.1, this.2.1⟩
  refine ⟨by have := h.len; have := ha.1; have := hb.1; omega, fun s hs => (spOk_iff s).2 ⟨?_, ?_, nrm_ok h.nrm s hs⟩⟩
  · obtain ⟨⟨t, ht, h1⟩, _⟩ := h.low s hs
    have := hall t ht
    rcases h1 with h1 | h1 <;> rw [h1] <;> omega
  · rcases (h.low s hs).2 with h1 | ⟨t, ht, h1⟩
    · omega
    · have := hall t ht
      rcases h1 with h1 | h1 <;> rw [h1] <;> omega
theorem good_wrong {N M : Nat} {a b : List SpanR} (ha : Good N a) (hb : Good M b) (hN : N ≤ 4096) (hM : M ≤ 4096) : swrong2 a b = 0 := by
  unfold swrong2
  rw [if_pos (swrong_of (Nat.le_trans ha.1 hN) ha.2)]
  exact swrong_of (Nat.le_trans hb.1 hM) hb.2
/-- What a sum of two good lists tells. -/
def SumPost (rf : Bool → Bool → Bool) (K : Nat) (w : World) (a b : List SpanR) (e : Ending) (w' : World) : Prop :=
  ∃ (A : Option Addr) (n c : Nat) (l : List SpanR), e = .returned (.tuple #[.slice A n c, .int .i64 0]) ∧ Below w.heap.size w w' ∧ (∀ base, Rd base 35 w' 2 A n c (sCells l)) ∧ Made rf a b l ∧ Good K l ∧ n = l.length
theorem SwPost.sum {rf : Bool → Bool → Bool} {w : World} {a b : List SpanR} {N M : Nat} (ha : Good N a) (hb : Good M b) (hN : 2 * (N + M) ≤ 4096) {e : Ending} {w' : World} (h : SwPost rf w a b e w') : SumPost rf (2 * (N + M)) w a b e w' := by
  obtain ⟨A, n, c, l, err, rfl, hb1, hO, hr⟩ := h
  have h0 := good_wrong ha hb (by omega) (by omega)
  rcases hr with ⟨h1, _⟩ | ⟨_, out, hm, hr⟩
  · exact absurd h0 h1
  · have hg := hm.good ha hb
    rcases hr with ⟨_, rfl, rfl⟩ | ⟨h1, _⟩
    · refine ⟨A, n, c, l, rfl, hb1, fun base => ?_, hm, hg, (own_slen hO).symm⟩
      obtain ⟨A', c', e1, h2⟩ := Rd.of_own (base := base) hO
      cases e1
      exact h2
    · have := hg.1
      omega

def xA : List SpanR := [⟨⟨#[98]⟩, ⟨#[100]⟩⟩, ⟨⟨#[97]⟩, ⟨#[98]⟩⟩, ⟨⟨#[101]⟩, ⟨#[]⟩⟩]
def xN : List SpanR := [⟨⟨#[97]⟩, ⟨#[100]⟩⟩, ⟨⟨#[101]⟩, ⟨#[]⟩⟩]
def xB : List SpanR := [⟨⟨#[97]⟩, ⟨#[]⟩⟩]
def xC : List SpanR := [⟨⟨#[98]⟩, ⟨#[99]⟩⟩]
def xD : List SpanR := [⟨⟨#[97]⟩, ⟨#[98]⟩⟩, ⟨⟨#[99]⟩, ⟨#[]⟩⟩]
theorem k_ab : klt ⟨#[97]⟩ ⟨#[98]⟩ := by decide
theorem k_bc : klt ⟨#[98]⟩ ⟨#[99]⟩ := by decide
theorem k_cd : klt ⟨#[99]⟩ ⟨#[100]⟩ := by decide
theorem k_de : klt ⟨#[100]⟩ ⟨#[101]⟩ := by decide
theorem k_dec {k x y : ByteArray} (h : klt x y) : decide (klt k x) = true → decide (klt k y) = true := fun e => decide_eq_true (klt_trans (of_decide_eq_true e) h)
theorem xN_nrm : Nrm xN := ⟨.inr (klt_trans k_ab (klt_trans k_bc k_cd)), fun e => absurd e (by decide), fun t ht => (by rw [List.mem_singleton] at ht; subst ht; exact k_de), ⟨.inl rfl, fun _ => rfl, fun _ h => (by cases h), trivial⟩⟩
theorem xD_nrm : Nrm xD := ⟨.inr k_ab, fun e => absurd e (by decide), fun t ht => (by rw [List.mem_singleton] at ht; subst ht; exact k_bc), ⟨.inl rfl, fun _ => rfl, fun _ h => (by cases h), trivial⟩⟩
theorem x_norm {out : List SpanR} (h : Made orB xA [] out) : out = xN := by
  refine nrm_uniq _ _ h.nrm xN_nrm fun k => ?_
  rw [h.sem k]
  have h1 := k_dec (k := k) k_ab
  have h2 := k_dec (k := k) (klt_trans k_bc k_cd)
  have h3 := k_dec (k := k) k_de
  simp only [inL, xA, xN, hasP, orB, List.any_cons, List.any_nil]
  generalize decide (klt k ⟨#[97]⟩) = p at *
  generalize decide (klt k ⟨#[98]⟩) = q at *
  generalize decide (klt k ⟨#[100]⟩) = r at *
  generalize decide (klt k ⟨#[101]⟩) = s at *
  generalize decide (klt k ⟨#[]⟩) = z at *
  revert h1 h2 h3
  cases z <;> cases p <;> cases q <;> cases r <;> cases s <;> decide
theorem x_minus {out : List SpanR} (h : Made notB xB xC out) : out = xD := by
  refine nrm_uniq _ _ h.nrm xD_nrm fun k => ?_
  rw [h.sem k]
  have h1 := k_dec (k := k) k_ab
  have h2 := k_dec (k := k) k_bc
  simp only [inL, xB, xC, xD, hasP, notB, List.any_cons, List.any_nil]
  generalize decide (klt k ⟨#[97]⟩) = p at *
  generalize decide (klt k ⟨#[98]⟩) = q at *
  generalize decide (klt k ⟨#[99]⟩) = r at *
  generalize decide (klt k ⟨#[]⟩) = z at *
  revert h1 h2
  cases z <;> cases p <;> cases q <;> cases r <;> decide
theorem x_good : Good 3 xA ∧ Good 1 xB ∧ Good 1 xC := by
  refine ⟨⟨by decide, ?_⟩, ⟨by decide, ?_⟩, ⟨by decide, ?_⟩⟩ <;> decide
end Go.Proofs.Ytkjopeiohjkhoaa

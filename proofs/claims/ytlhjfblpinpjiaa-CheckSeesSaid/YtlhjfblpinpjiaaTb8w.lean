/- Do: what it does, in plain Lean; lists of results in memory. -/
import Derived.Test.YtlhjfblpinpjiaaTb7w
set_option linter.unusedVariables false
set_option linter.unusedSimpArgs false
namespace Go.Proofs.Ytlhjfblpinpjiaa
open Go.RowKit

def stP : List Rw → List OpR → List Rw
  | l, [] => l
  | l, x :: xs => stP (oneP l x).1 xs
def reP : List Rw → List OpR → List Res
  | _, [] => []
  | l, x :: xs => (oneP l x).2 :: reP (oneP l x).1 xs
theorem stP_snoc (l : List Rw) (xs : List OpR) (x : OpR) : stP l (xs ++ [x]) = (oneP (stP l xs) x).1 := by
  induction xs generalizing l with
  | nil => rfl
  | cons y ys ih => exact ih _
theorem reP_snoc (l : List Rw) (xs : List OpR) (x : OpR) : reP l (xs ++ [x]) = reP l xs ++ [(oneP (stP l xs) x).2] := by
  induction xs generalizing l with
  | nil => rfl
  | cons y ys ih => simp only [List.cons_append, reP, stP, ih]
theorem reP_len (l : List Rw) (xs : List OpR) : (reP l xs).length = xs.length := by
  induction xs generalizing l with
  | nil => rfl
  | cons y ys ih => simp [reP, ih]
theorem stP_sorted {l : List Rw} (h : Sorted l) (xs : List OpR) : Sorted (stP l xs) := by
  induction xs generalizing l with
  | nil => exact h
  | cons y ys ih => exact ih (oneP_sorted h y)
theorem stP_len {l : List Rw} (h : Sorted l) (hl : l.length ≤ 4096) (xs : List OpR) : (stP l xs).length ≤ 4096 := by
  induction xs generalizing l with
  | nil => exact hl
  | cons y ys ih => exact ih (oneP_sorted h y) (oneP_len h hl y)
theorem reP_take (l : List Rw) (xs : List OpR) (k : Nat) : reP l (xs.take k) = (reP l xs).take k := by
  induction xs generalizing l k with
  | nil => simp [reP]
  | cons y ys ih =>
    cases k with
    | zero => simp [reP]
    | succ k => simp [reP, ih]

/-- What Do does: the rows behind it, the results, the fault. -/
structure DoR where
  rows : List Rw
  res : List Res
  at_ : Int
  code : Int
def failed (r : Res) : Bool := decide (r.code ≠ 0)
def doP (l : List Rw) (ops : List OpR) : DoR :=
  if ops.length < 1 ∨ 32 < ops.length then ⟨l, [], 0, 80⟩
  else if ops.any (fun x => !opOk x) then ⟨l, [], fidx (fun x => !opOk x) ops, 80⟩
  else if 1 < ops.length ∧ (reP l ops).any failed then ⟨l, [], fidx failed (reP l ops), ((reP l ops).getD ((reP l ops).findIdx failed) ⟨0, 0, ⟨#[]⟩, []⟩).code⟩
  else ⟨stP l ops, reP l ops, 0, 0⟩

/-- A result as it lies in memory. -/
structure RRes where
  code : Int
  stamp : Int
  val : ByteArray
  A : Option Addr
  n : Nat
  c : Nat
def RRes.enc (q : RRes) : List Value := [.int .i64 q.code, .int .i64 q.stamp, .string q.val, .slice q.A q.n q.c]
instance : Inhabited RRes := ⟨⟨0, 0, ⟨#[]⟩, none, 0, 0⟩⟩
structure RMatch (base B : Nat) (w : World) (q : RRes) (r : Res) : Prop where
  code : q.code = r.code
  stamp : q.stamp = r.stamp
  val : q.val = r.val
  rd : Rd base 86 w 3 q.A q.n q.c (rowCells r.rows)
  own : w.ownsRow B 86 3 (.slice q.A q.n q.c) q.n (rowCells r.rows)

theorem own_ist {w : World} {b e k n : Nat} {v : Value} {xs : List Value} (h : w.ownsRow b e k v n xs) : ∀ j, v.ownBlock = some j → IsT w j e ∧ b ≤ j := by
  intro j hj
  rcases h.2 with ⟨rfl, _⟩ | ⟨g, cap, cur, rfl, hb, hgg, rest⟩
  · simp [Value.ownBlock] at hj
  · simp [Value.ownBlock] at hj
    subst hj
    exact ⟨⟨_, _, hgg⟩, hb⟩
theorem IsT.ne {w : World} {j i : Nat} {T U : TypeId} (h : IsT w j T) (k : IsT w i U) (hne : T ≠ U) : j ≠ i := by
  rintro rfl
  obtain ⟨cs, fr, e⟩ := h
  obtain ⟨cs', fr', e'⟩ := k
  rw [e] at e'
  injection e' with e'
  injection e' with _ e'
  exact hne e'
section
variable {base T U B e : Nat} {w w' : World} {row : Option Nat}
theorem Rd.grownR {k n c : Nat} {A : Option Addr} {xs : List Value} (h : Rd base T w k A n c xs) (hg : w.grownBy w' row) (hr : ∀ j, row = some j → IsT w j U ∧ base ≤ j) (hU : U ≠ T) : Rd base T w' k A n c xs :=
  h.keep hg.size fun b hs => hg.block b hs.lt (by
    intro e
    obtain ⟨⟨cs, fr, hc⟩, hb⟩ := hr b e.symm
    exact hs.ne hc hU hb rfl)
theorem own_grownR {k n : Nat} {v : Value} {xs : List Value} (h : w.ownsRow B e k v n xs) (hg : w.grownBy w' row) (hr : ∀ j, row = some j → IsT w j U) (hU : U ≠ e) : w'.ownsRow B e k v n xs := by
  refine h.kept hg ?_
  cases hv : v.ownBlock with
  | none => exact .inl rfl
  | some j =>
    refine .inr fun e => ?_
    exact ((own_ist h j hv).1.ne (hr j e.symm) hU.symm) rfl
theorem Tab.grownR {g c : Nat} {l : List Rw} {A : Option Addr} (h : Tab base w g l A c) (hg : w.grownBy w' row) (hr : ∀ j, row = some j → IsT w j U ∧ base ≤ j) (h1 : U ≠ 86) (h2 : U ≠ 88) : Tab base w' g l A c :=
  ⟨(hg.block g h.lt (fun e => (IsT.ne ⟨_, _, h.blk⟩ (hr g e.symm).1 h2.symm) rfl)).trans h.blk, h.ge, h.rd.grownR hg hr h1, h.srt, h.big, fun a ha => Nat.lt_of_lt_of_le (h.old a ha) hg.size⟩
theorem RMatch.grownR {q : RRes} {r : Res} (h : RMatch base B w q r) (hg : w.grownBy w' row) (hr : ∀ j, row = some j → IsT w j U ∧ base ≤ j) (h1 : U ≠ 86) : RMatch base B w' q r :=
  ⟨h.code, h.stamp, h.val, h.rd.grownR hg hr h1, own_grownR h.own hg (fun j hj => (hr j hj).1) h1⟩
theorem RMatch.below {q : RRes} {r : Res} (h : RMatch base B w q r) (hb : Below w.heap.size w w') : RMatch base B w' q r :=
  ⟨h.code, h.stamp, h.val, h.rd.below hb, h.own.kept (gb_below hb none) (by cases (Value.slice q.A q.n q.c).ownBlock <;> simp)⟩
end
def All2 {α β : Type} (R : α → β → Prop) : List α → List β → Prop
  | [], [] => True
  | a :: l, b :: m => R a b ∧ All2 R l m
  | _, _ => False
theorem All2.mono {α β : Type} {R S : α → β → Prop} (h : ∀ a b, R a b → S a b) : ∀ {l : List α} {m : List β}, All2 R l m → All2 S l m
  | [], [], _ => trivial
  | _ :: _, _ :: _, k => ⟨h _ _ k.1, All2.mono h k.2⟩
  | [], _ :: _, k => k.elim
  | _ :: _, [], k => k.elim
theorem All2.snoc {α β : Type} {R : α → β → Prop} {a : α} {b : β} : ∀ {l : List α} {m : List β}, All2 R l m → R a b → All2 R (l ++ [a]) (m ++ [b])
  | [], [], _, h => ⟨h, trivial⟩
  | _ :: _, _ :: _, k, h => ⟨k.1, All2.snoc k.2 h⟩
  | [], _ :: _, k, _ => k.elim
  | _ :: _, [], k, _ => k.elim
theorem All2.len {α β : Type} {R : α → β → Prop} : ∀ {l : List α} {m : List β}, All2 R l m → l.length = m.length
  | [], [], _ => rfl
  | _ :: _, _ :: _, k => by simp [All2.len k.2]
  | [], _ :: _, k => k.elim
  | _ :: _, [], k => k.elim
theorem All2.at_ {α β : Type} {R : α → β → Prop} : ∀ {l : List α} {m : List β} (h : All2 R l m) (i : Nat) (h1 : i < l.length) (h2 : i < m.length), R l[i] m[i]
  | _ :: _, _ :: _, k, 0, _, _ => k.1
  | _ :: _, _ :: _, k, i + 1, h1, h2 => All2.at_ k.2 i (by simpa using h1) (by simpa using h2)
  | [], _, _, _, h1, _ => by simp at h1
  | _ :: _, [], k, _, _, _ => k.elim
section
variable {base T U B e : Nat} {w w' : World} {row : Option Nat}
/-- The results rs lie in memory as rr. -/
def RMs (base B : Nat) (w : World) (rr : List RRes) (rs : List Res) : Prop := All2 (RMatch base B w) rr rs
theorem RMs.grownR {rr : List RRes} {rs : List Res} (h : RMs base B w rr rs) (hg : w.grownBy w' row) (hr : ∀ j, row = some j → IsT w j U ∧ base ≤ j) (h1 : U ≠ 86) : RMs base B w' rr rs :=
  All2.mono (fun _ _ q => q.grownR hg hr h1) h
theorem RMs.below {rr : List RRes} {rs : List Res} (h : RMs base B w rr rs) (hb : Below w.heap.size w w') : RMs base B w' rr rs := All2.mono (fun _ _ q => q.below hb) h
end
theorem elt_res : Elt Try.prog 40 47 4 56 := Elt.mk' Try.underlying40 (z := .agg #[.int .i64 0, .int .i64 0, .string ⟨#[]⟩, .slice none 0 0]) (by kernel_rfl) rfl (by omega)
def resCells (rr : List RRes) : List Value := rr.flatMap RRes.enc
theorem res_one (rr : List RRes) : ∀ u ∈ resCells rr, u.oneCell' = true := by
  intro u hu
  unfold resCells at hu
  obtain ⟨r, _, hr⟩ := List.mem_flatMap.1 hu
  simp only [RRes.enc, List.mem_cons, List.not_mem_nil, or_false] at hr
  rcases hr with rfl | rfl | rfl | rfl <;> rfl

/-- The table's rows' block is no result's rows' block. -/
def NeR (A : Option Addr) (rr : List RRes) : Prop := ∀ q ∈ rr, ∀ a a', q.A = some a → A = some a' → a.block ≠ a'.block
theorem NeR.nil (A : Option Addr) : NeR A [] := fun _ h => by cases h
theorem RMs.lt {base B : Nat} {w : World} {rr : List RRes} {rs : List Res} (h : RMs base B w rr rs) : ∀ q ∈ rr, ∀ a, q.A = some a → B ≤ a.block ∧ a.block < w.heap.size := by
  intro q hq a ha
  obtain ⟨i, hi, rfl⟩ := List.mem_iff_getElem.1 hq
  exact (All2.at_ h i hi (by rw [← All2.len h]; exact hi)).own.lt a.block (by rw [ha]; rfl)
theorem NeR.step {w1 : World} {Ak A3 : Option Addr} {rr : List RRes} {q : RRes} (h : NeR Ak rr) (hfr : Fr w1 Ak A3) (hq : q.A = none ∨ A3 = Ak) (ho : ∀ p ∈ rr, ∀ a, p.A = some a → a.block < w1.heap.size) (hn : ∀ a, q.A = some a → w1.heap.size ≤ a.block) (hA : ∀ a, Ak = some a → a.block < w1.heap.size) : NeR A3 (rr ++ [q]) := by
  intro p hp a a' ha ha'
  rcases List.mem_append.1 hp with hp | hp
  · rcases hfr with rfl | hfr
    · exact h p hp a a' ha ha'
    · have := ho p hp a ha
      have := hfr a' ha'
      omega
  · rw [List.mem_singleton] at hp
    subst hp
    rcases hq with hq | rfl
    · rw [hq] at ha; cases ha
    · have := hn a ha
      have := hA a' ha'
      omega

def DoPost2 (base : Nat) (w : World) (A : Option Addr) (g : Nat) (d : DoR) (e : Ending) (w' : World) : Prop :=
  ∃ A1 n c rr, e = .returned (.tuple #[.slice A1 n c, .agg #[.int .i64 d.at_, .int .i64 d.code]]) ∧ w.grownBy w' (some g) ∧ (∃ A' c', Tab base w' g d.rows A' c' ∧ Fr w A A' ∧ NeR A' rr) ∧
    w'.ownsRow w.heap.size 47 4 (.slice A1 n c) n (resCells rr) ∧ RMs base w.heap.size w' rr d.res

def DoPost (base : Nat) (w : World) (g : Nat) (d : DoR) (e : Ending) (w' : World) : Prop :=
  ∃ A n c rr, e = .returned (.tuple #[.slice A n c, .agg #[.int .i64 d.at_, .int .i64 d.code]]) ∧ w.grownBy w' (some g) ∧ (∃ A' c', Tab base w' g d.rows A' c') ∧
    w'.ownsRow w.heap.size 47 4 (.slice A n c) n (resCells rr) ∧ RMs base w.heap.size w' rr d.res

end Go.Proofs.Ytlhjfblpinpjiaa

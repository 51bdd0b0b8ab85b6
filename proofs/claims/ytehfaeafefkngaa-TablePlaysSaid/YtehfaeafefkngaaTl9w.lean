/- Words for TablePages: among; Do of one operation in a slice of its own, and where the table's rows lie then. -/
import Derived.Test.YtehfaeafefkngaaTl7
import Derived.Test.YtehfaeafefkngaaWg
import Derived.Test.YtehfaeafefkngaaTpg
set_option linter.unusedVariables false
set_option linter.unusedSimpArgs false
namespace Go.Proofs.Ytehfaeafefkngaa
open Go.RowKit

def amongP (x n : Int) : Int := ((x.tmod n) + n).tmod n
theorem amongP_range (x : Int) {n : Int} (hn : 0 < n) : 0 ≤ amongP x n ∧ amongP x n < n := by
  unfold amongP
  have h1 := Int.lt_tmod_of_pos x hn
  have h2 := Int.tmod_lt_of_pos x hn
  exact ⟨Int.tmod_nonneg _ (by omega), Int.tmod_lt_of_pos _ hn⟩
theorem among_calls (x n : Int) (hn : 0 < n) (hn2 : n ≤ 1000) (w : World) :
    Calls Try.prog 23 #[.int .i64 x, .int .i64 n] w fun e w' => e = .returned (.int .i64 (amongP x n)) ∧ w' = w := by
  have h1 := Int.lt_tmod_of_pos x hn
  have h2 := Int.tmod_lt_of_pos x hn
  have h3 := amongP_range x hn
  unfold amongP at h3
  have e1 : IntKind.i64.wrap (x.tmod n) = x.tmod n := IntWalk.i64_in _ (by omega)
  have e2 : IntKind.i64.wrap (x.tmod n + n) = x.tmod n + n := IntWalk.i64_in _ (by omega)
  have e3 : IntKind.i64.wrap ((x.tmod n + n).tmod n) = (x.tmod n + n).tmod n := IntWalk.i64_in _ (by omega)
  have hn0 : n ≠ 0 := by omega
  unfold amongP
  have e4 := Int.tmod_eq_emod_of_nonneg (a := x.tmod n + n) (b := n) (by omega)
  go_enter Try.func23, Try.ntmps23
  go_wp2
  go_ret
  refine ⟨?_, rfl⟩
  rw [e4, Int.add_emod_right]
  rfl

def NeA (A B : Option Addr) : Prop := ∀ a a', A = some a → B = some a' → a.block ≠ a'.block
theorem NeA.fr {w : World} {A A' B : Option Addr} (h : NeA A B) (hf : Fr w A A') (hB : ∀ a, B = some a → a.block < w.heap.size) : NeA A' B := by
  intro a a' ha ha'
  rcases hf with rfl | hf
  · exact h a a' ha ha'
  · have := hf a ha
    have := hB a' ha'
    omega
theorem NeA.step {w : World} {A B B' : Option Addr} {n c n' c' : Nat} (h : NeA A B) (ho : (Value.slice B' n' c').ownBlock = (Value.slice B n c).ownBlock ∨ (Value.slice B' n' c').ownBlock = some w.heap.size) (hA : ∀ a, A = some a → a.block < w.heap.size) : NeA A B' := by
  intro a a' ha ha'
  subst ha'
  have e : (Value.slice (some a') n' c').ownBlock = some a'.block := rfl
  rw [e] at ho
  rcases ho with ho | ho
  · cases B with
    | none => simp [Value.ownBlock] at ho
    | some b =>
      have e2 : (Value.slice (some b) n c).ownBlock = some b.block := rfl
      rw [e2] at ho
      injection ho with ho
      rw [ho]
      exact h a b ha rfl
  · injection ho with ho
    have := hA a ha
    omega
theorem NeA.none_ (A : Option Addr) : NeA A none := fun _ _ _ h => by cases h

/-- The table stays when another row is turned, though it has the type of rows. -/
theorem Rd.keepA {base T k n c : Nat} {w w' : World} {A : Option Addr} {xs : List Value} (h : Rd base T w k A n c xs) (hs : w.heap.size ≤ w'.heap.size) (hk : ∀ a, A = some a → a.block < w.heap.size → w'.heap[a.block]? = w.heap[a.block]?) : Rd base T w' k A n c xs :=
  ⟨h.len, h.cap, h.nil, fun hn => by
    obtain ⟨b, off, e, hb, hc⟩ := h.at_ hn
    have := hk _ e hb.lt
    exact ⟨b, off, e, hb.keep hs this, fun j u hu => (World.cell?_of_block (w := w) (a := ⟨b, off + j, none⟩) this).trans (hc j u hu)⟩⟩
theorem Tab.apart {base g c n d : Nat} {w w' : World} {l : List Rw} {A B : Option Addr} (h : Tab base w g l A c) {m : Nat} {xs : List Value} {b : Nat} (ho : w.ownsRow b 53 3 (.slice B n d) m xs) (hg : w.grownBy w' (Value.slice B n d).ownBlock) (hne : NeA A B) : Tab base w' g l A c := by
  have hr : ∀ j, (Value.slice B n d).ownBlock = some j → IsT w j 53 := fun j hj => (own_ist ho j hj).1
  refine ⟨(hg.block g h.lt (fun e => (IsT.ne ⟨_, _, h.blk⟩ (hr g e.symm) (by decide)) rfl)).trans h.blk, h.ge, h.rd.keepA hg.size ?_, h.srt, h.big, fun a ha => Nat.lt_of_lt_of_le (h.old a ha) hg.size⟩
  intro a ha hl
  refine hg.block _ hl ?_
  cases B with
  | none => simp [Value.ownBlock]
  | some b' =>
    intro e
    have e2 : (Value.slice (some b') n d).ownBlock = some b'.block := rfl
    rw [e2] at e
    injection e with e
    exact hne a b' ha rfl e

/-- Do with one operation, laid into a slice of its own. -/
theorem Do1op2 {base g c : Nat} {w : World} {l : List Rw} {A : Option Addr} (h : Tab base w g l A c) (x : OpR) (fx : Fits x) {b : Nat} (eb : b = w.heap.size) :
    Calls Try.prog 14 #[.pointer (some ⟨g, 0, none⟩), .slice (some ⟨b, 0, none⟩) 1 1] (w.alloc (.cells x.enc.toArray 28)) fun e w' =>
      ∃ A1 n c rr B, e = .returned (.tuple #[.slice A1 n c, .agg #[.int .i64 (doP l [x]).at_, .int .i64 (doP l [x]).code]]) ∧ w.grownBy w' (some g) ∧ (∃ A' c', Tab base w' g (doP l [x]).rows A' c' ∧ Fr w A A' ∧ NeR A' rr) ∧
        Rd base 39 w' 4 A1 n c (resCells rr) ∧ RMs base B w' rr (doP l [x]).res ∧ w.heap.size ≤ B := by
  subst eb
  have hb := h.below ((Below.refl w.heap.size w).alloc (Nat.le_refl _) (.cells x.enc.toArray 28))
  refine (Do_calls2 hb [x] _ 1 1 (Rd.new_ rfl rfl) (fun y hy => by rw [List.mem_singleton.1 hy]; exact fx)).mono ?_
  rintro e w' ⟨A1, n, c, rr, rfl, hg, ⟨A', c', hT, hF, hN⟩, hO, hR⟩
  have hg' : w.grownBy w' (some g) := gb_trans (gb_below ((Below.refl _ _).alloc (Nat.le_refl _) _) _) hg
  obtain ⟨A2, c2, hs, hRd⟩ := Rd.of_own (base := base) hO
  injection hs with h1 _ h2
  subst h1 h2
  exact ⟨_, _, _, rr, _, rfl, hg', ⟨A', c', hT, hF.mono (by simp), hN⟩, hRd, hR, by simp⟩
end Go.Proofs.Ytehfaeafefkngaa

/- op.Decode: a request out of bytes. -/
import Derived.Test.YtallnibjmffahaaGreatDoorJ18
set_option linter.unusedVariables false
set_option linter.unusedSimpArgs false
namespace Go.Proofs.YtallnibjmffahaaGreatDoor
open Go.RowKit

def opRd (l : List FieldR) (ok : Bool) : RdR OpR :=
  let a := numP l ok
  let b := txtP a.l a.ok
  let c := txtP b.l b.ok
  let d := numP c.l c.ok
  let e := numP d.l d.ok
  let f := numP e.l e.ok
  ⟨⟨a.v, b.v, c.v, d.v, e.v, f.v⟩, f.l, f.ok⟩
def opsRd : Nat → List FieldR → Bool → List OpR → RdR (List OpR)
  | 0, l, ok, out => ⟨out, l, ok⟩
  | k + 1, l, ok, out => if ok then opsRd k (opRd l ok).l (opRd l ok).ok (out ++ [(opRd l ok).v]) else ⟨out, l, ok⟩
theorem opsRd_succ (k : Nat) (l : List FieldR) (out : List OpR) : opsRd (k + 1) l true out = opsRd k (opRd l true).l (opRd l true).ok (out ++ [(opRd l true).v]) := rfl
/-- A request as it is read. -/
structure ReqD where
  cl : Int
  sq : Int
  ops : List OpR
  code : Int
def reqD0 (code : Int) : ReqD := ⟨0, 0, [], code⟩
def odecP (b : ByteArray) : ReqD :=
  if 262144 < b.size then reqD0 2
  else if (decP b).code ≠ 0 then reqD0 80
  else
    let c := numP (decP b).l true
    let s := numP c.l c.ok
    let n := numP s.l s.ok
    let r := opsRd n.v.toNat n.l n.ok []
    if r.ok && decide (r.l.length = 0) then (if reqOk c.v s.v r.v then ⟨c.v, s.v, r.v, 0⟩ else reqD0 80) else reqD0 80
theorem rr_dr {base : Nat} {w : World} {g : Nat} {l : List FieldR} {ok : Bool} (h : Rr base w g l ok) : Rr base w.drew g l ok := by
  obtain ⟨⟨A, n, c, h1, h2⟩, h3⟩ := h
  exact ⟨⟨A, n, c, h1, rd_dr h2⟩, h3⟩
theorem rr_below {base : Nat} {w w' : World} {g : Nat} {l : List FieldR} {ok : Bool} (h : Rr base w g l ok) (hb : Below w.heap.size w w') : Rr base w' g l ok := by
  obtain ⟨⟨A, n, c, h1, h2⟩, h3⟩ := h
  exact ⟨⟨A, n, c, (hb.block _ (Array.getElem?_eq_some_iff.1 h1).1).trans h1, h2.below hb⟩, h3⟩
theorem fldP_len (t : Bool) (l : List FieldR) (ok : Bool) : (fldP t l ok).l.length ≤ l.length ∧ ((fldP t l ok).ok = true → (fldP t l ok).l.length + 1 = l.length ∧ ok = true) := by
  unfold fldP
  cases l with
  | nil => exact ⟨by simp, by simp⟩
  | cons f r =>
    simp only
    split
    · exact ⟨by simp, by simp⟩
    · exact ⟨by simp, fun h => ⟨by simp, h⟩⟩
theorem opRd_len (l : List FieldR) (ok : Bool) : (opRd l ok).l.length ≤ l.length ∧ ((opRd l ok).ok = true → (opRd l ok).l.length + 6 = l.length) := by
  unfold opRd numP txtP
  simp only
  have h1 := fldP_len false l ok
  generalize fldP false l ok = a at h1 ⊢
  have h2 := fldP_len true a.l a.ok
  generalize fldP true a.l a.ok = b at h2 ⊢
  have h3 := fldP_len true b.l b.ok
  generalize fldP true b.l b.ok = c at h3 ⊢
  have h4 := fldP_len false c.l c.ok
  generalize fldP false c.l c.ok = d at h4 ⊢
  have h5 := fldP_len false d.l d.ok
  generalize fldP false d.l d.ok = e at h5 ⊢
  have h6 := fldP_len false e.l e.ok
  generalize fldP false e.l e.ok = f at h6 ⊢
  refine ⟨by omega, fun h => ?_⟩
  obtain ⟨h6a, h6b⟩ := h6.2 h
  obtain ⟨h5a, h5b⟩ := h5.2 h6b
  obtain ⟨h4a, h4b⟩ := h4.2 h5b
  obtain ⟨h3a, h3b⟩ := h3.2 h4b
  obtain ⟨h2a, h2b⟩ := h2.2 h3b
  obtain ⟨h1a, h1b⟩ := h1.2 h2b
  omega

theorem fieldP_small (s : ByteArray) : (fieldP s).f.s.size ≤ s.size := by
  have hz : zeroF.s.size = 0 := rfl
  have hz2 : (⟨#[]⟩ : ByteArray).size = 0 := rfl
  unfold fieldP
  split
  · simp only [hz]; omega
  · split
    · simp only [hz]; omega
    · have hb : (s.extract 2 s.size).size ≤ s.size := by rw [ByteArray.size_extract]; omega
      generalize s.extract 2 s.size = b at hb
      unfold fieldP2
      repeat' split
      all_goals
        simp only [hz, hz2, ByteArray.size_extract]
        omega
theorem decGo_small (n m : Nat) (rest : ByteArray) (hm : rest.size ≤ m) : ∀ (out : List FieldR), (∀ f ∈ out, f.s.size ≤ m) → out.length ≤ 4096 → (∀ f ∈ (decGo n rest out).l, f.s.size ≤ m) ∧ (decGo n rest out).l.length ≤ 4096 := by
  induction hs : rest.size using Nat.strongRecOn generalizing rest with
  | _ k ih =>
    intro out h hl
    rw [decGo]
    split
    · exact ⟨h, hl⟩
    · split
      · exact ⟨by simp, by simp⟩
      · rename_i h0 h1
        split
        · rename_i h2
          have hl2 := fieldP_less h2 (by omega)
          refine ih (fieldP rest).rest.size (by omega) (fieldP rest).rest (by omega) rfl _ (fun f hf => ?_) (by simp; omega)
          rcases List.mem_append.1 hf with hf | hf
          · exact h f hf
          · obtain rfl := List.mem_singleton.1 hf
            have := fieldP_small rest
            omega
        · exact ⟨by simp, by simp⟩
theorem decP_small (b : ByteArray) : (∀ f ∈ (decP b).l, f.s.size ≤ 262144) ∧ (decP b).l.length ≤ 4096 := by
  unfold decP
  split
  · exact ⟨by simp, by simp⟩
  · exact decGo_small b.size 262144 b (by omega) [] (by simp) (by simp)
/-- Fields whose texts are short. -/
def Short (l : List FieldR) : Prop := ∀ f ∈ l, f.s.size ≤ 262144
theorem fldP_short (t : Bool) {l : List FieldR} (ok : Bool) (h : Short l) : (fldP t l ok).v.s.size ≤ 262144 ∧ Short (fldP t l ok).l ∧ 0 ≤ (fldP t l ok).v.n := by
  unfold fldP
  cases l with
  | nil => exact ⟨Nat.zero_le _, h, Int.le_refl _⟩
  | cons f r =>
    simp only
    split
    · exact ⟨Nat.zero_le _, ⟨fun _ hf => (by cases hf), Int.le_refl _⟩⟩
    · rename_i h1
      have h2 : 0 ≤ f.n := by omega
      exact ⟨h f (List.mem_cons_self ..), ⟨fun g hg => h g (List.mem_cons_of_mem _ hg), h2⟩⟩
theorem fldP_most (t : Bool) (l : List FieldR) (ok : Bool) : (fldP t l ok).v.n ≤ 1099511627776 := by
  unfold fldP
  cases l with
  | nil => exact (by decide : (0 : Int) ≤ 1099511627776)
  | cons f r =>
    simp only
    split
    · exact (by decide : (0 : Int) ≤ 1099511627776)
    · rename_i h1
      have h2 : f.n ≤ 1099511627776 := by omega
      exact h2
theorem opRd_short {l : List FieldR} (ok : Bool) (h : Short l) : Fits (opRd l ok).v ∧ Short (opRd l ok).l := by
  unfold opRd numP txtP Fits
  simp only
  have h1 := fldP_short false ok h
  generalize fldP false l ok = a at h1 ⊢
  have h2 := fldP_short true a.ok h1.2.1
  generalize fldP true a.l a.ok = b at h2 ⊢
  have h3 := fldP_short true b.ok h2.2.1
  generalize fldP true b.l b.ok = c at h3 ⊢
  have h4 := fldP_short false c.ok h3.2.1
  generalize fldP false c.l c.ok = d at h4 ⊢
  have h5 := fldP_short false d.ok h4.2.1
  generalize fldP false d.l d.ok = e at h5 ⊢
  have h6 := fldP_short false e.ok h5.2.1
  exact ⟨⟨by omega, by omega⟩, h6.2.1⟩
theorem opsRd_fits : ∀ (k : Nat) (l : List FieldR) (ok : Bool) (out : List OpR), Short l → (∀ x ∈ out, Fits x) → ∀ x ∈ (opsRd k l ok out).v, Fits x := by
  intro k
  induction k with
  | zero => intro l ok out _ h; exact h
  | succ k ih =>
    intro l ok out hs h
    unfold opsRd
    split
    · have := opRd_short ok hs
      refine ih _ _ _ this.2 (fun x hx => ?_)
      rcases List.mem_append.1 hx with hx | hx
      · exact h x hx
      · obtain rfl := List.mem_singleton.1 hx
        exact this.1
    · exact h
def ODecPost (w : World) (r : ReqD) (e : Ending) (w' : World) : Prop :=
  ∃ A n c, e = .returned (.tuple #[.agg #[.int .i64 r.cl, .int .i64 r.sq, .slice A n c], .int .i64 r.code]) ∧ w'.ownsRow w.heap.size 79 6 (.slice A n c) n (opCells r.ops) ∧ Below w.heap.size w w'

set_option maxHeartbeats 8000000 in
set_option maxRecDepth 100000 in
theorem OpDecode_bad (b : ByteArray) (w : World) (ec : Int) (hbad : (262144 < b.size ∧ ec = 2) ∨ (¬ 262144 < b.size ∧ (decP b).code ≠ 0 ∧ ec = 80)) : Calls Tryz.prog 32 #[.string b] w (ODecPost w (reqD0 ec)) := by
  have hal := (Below.refl w.heap.size w).alloc (Nat.le_refl _) (.cells #[.int .i64 0, .int .i64 0, .slice none 0 0] 46)
  have B1 := Asd.mk hal
  have H1 := Asd.mk (heap_alloc_new w (.cells #[.int .i64 0, .int .i64 0, .slice none 0 0] 46))
  have C : Asd (∀ W, Calls Tryz.prog 49 #[.string b] W fun e w' => Below W.heap.size W w' ∧ e = .returned (.tuple #[.pointer none, .int .i64 ec])) := ⟨fun W => (open_calls b W).mono (by
    rintro e w' ⟨h0, ⟨h1, h2⟩ | ⟨h1, h2, h3⟩ | ⟨h1, h2, h3⟩⟩
    · rcases hbad with ⟨_, rfl⟩ | ⟨h4, _⟩
      · exact ⟨h0, h2⟩
      · exact absurd h1 h4
    · rcases hbad with ⟨h4, _⟩ | ⟨_, _, rfl⟩
      · exact absurd h4 h1
      · exact ⟨h0, h3⟩
    · rcases hbad with ⟨h4, _⟩ | ⟨_, h4, _⟩
      · exact absurd h4 h1
      · exact absurd h2 h4)⟩
  have hec : ¬ ec = 0 := by omega
  have hec2 : (ec == 0) = false := by simpa using hec
  clear hal hbad
  go_enter Tryz.func32, Tryz.ntmps32
  go_upto_region 1 with fail
  generalize w.alloc (.cells #[.int .i64 0, .int .i64 0, .slice none 0 0] 46) = w1 at B1 H1 ⊢
  go_wp2_with fail
  refine (C.out _).mono ?_
  rintro e w2 ⟨hb2, rfl⟩
  have B2 := Asd.mk (B1.out.trans (hb2.mono B1.out.size))
  have H2 := Asd.mk ((hb2.block _ (Array.getElem?_eq_some_iff.1 H1.out).1).trans H1.out)
  have h0 := (cell_of_row w2 w.heap.size 0 _ _ _ H2.out).trans rfl
  have h1 := (cell_of_row w2 w.heap.size 1 _ _ _ H2.out).trans rfl
  have h2 := (cell_of_row w2 w.heap.size 2 _ _ _ H2.out).trans rfl
  have hf : ∀ i, w2.frozen? ⟨w.heap.size, i, none⟩ = false := fun i => by simp [World.frozen?, H2.out]
  clear hb2
  go_wp2_with fail
  refine bodyPost_ret (v := .tuple #[.agg #[.int .i64 0, .int .i64 0, .slice none 0 0], .int .i64 ec]) (by simp [results, Tryz.results32, go_sem, h0, h1, h2, hf]) rfl ?_
  exact ⟨none, 0, 0, rfl, World.ownsRow_nil _ _ _ _, ((B2.out.setCell (Nat.le_refl _) _).setCell (Nat.le_refl _) _).setCell (Nat.le_refl _) _⟩

/-- What the loop keeps. -/
structure OdS (w w1 wr : World) (g xb : Nat) (cl sq : Int) (l : List FieldR) (ok : Bool) (A : Option Addr) (m d : Nat) (out : List OpR) : Prop where
  below : Below w.heap.size w wr
  sz : w1.heap.size ≤ wr.heap.size
  rr : Rr w1.heap.size wr g l ok
  res : wr.heap[w.heap.size]? = some (.cells #[.int .i64 0, .int .i64 0, .slice none 0 0] 46 (0, 0))
  x : wr.heap[xb]? = some (.cells #[.int .i64 cl, .int .i64 sq, .slice A m d] 46 (0, 0))
  own : wr.ownsRow w.heap.size 79 6 (.slice A m d) m (opCells out)
theorem OdS.step {w w1 wr w' : World} {g xb : Nat} {cl sq : Int} {l l' : List FieldR} {ok ok' : Bool} {A : Option Addr} {m d : Nat} {out : List OpR} (h : OdS w w1 wr g xb cl sq l ok A m d out) (hz : w.heap.size ≤ w1.heap.size) (h1 : Rr w1.heap.size w' g l' ok') (k : Kq rdS w1.heap.size wr w') : OdS w w1 w' g xb cl sq l' ok' A m d out :=
  ⟨h.below.trans (k.below.mono hz), Nat.le_trans h.sz k.size, h1, k.blk h.res rfl, k.blk h.x rfl, k.own_ h.own rfl⟩

theorem OdS.dr {w w1 wr : World} {g xb : Nat} {cl sq : Int} {l : List FieldR} {ok : Bool} {A : Option Addr} {m d : Nat} {out : List OpR} (h : OdS w w1 wr g xb cl sq l ok A m d out) : OdS w w1 wr.drew g xb cl sq l ok A m d out :=
  ⟨h.below.drew, h.sz, rr_dr h.rr, h.res, h.x, h.own⟩
theorem elt_opN : Elt Tryz.prog 39 79 6 64 := Elt.mk' Tryz.underlying39 (z := .agg #[.int .i64 0, .string ⟨#[]⟩, .string ⟨#[]⟩, .int .i64 0, .int .i64 0, .int .i64 0]) (by kernel_rfl) rfl (by omega)
theorem ops_one (l : List OpR) : ∀ u ∈ opCells l, u.oneCell' = true := by
  intro u hu
  unfold opCells at hu
  obtain ⟨r, _, hr⟩ := List.mem_flatMap.1 hu
  simp only [OpR.enc, List.mem_cons, List.not_mem_nil, or_false] at hr
  rcases hr with rfl | rfl | rfl | rfl | rfl | rfl <;> rfl

theorem od_num {w w1 wr : World} {g xb : Nat} {cl sq : Int} {l : List FieldR} {ok : Bool} {A : Option Addr} {m d : Nat} {out : List OpR} (h : OdS w w1 wr g xb cl sq l ok A m d out) (hz : w.heap.size ≤ w1.heap.size) :
    Calls Tryz.prog 50 #[.pointer (some ⟨g, 0, none⟩)] wr fun e w' => ∃ v l' ok', e = .returned (.int .i64 v) ∧ Asd (numP l ok = ⟨v, l', ok'⟩) ∧ OdS w w1 w' g xb cl sq l' ok' A m d out ∧ w'.cell? ⟨xb, 2, none⟩ = some (.slice A m d) ∧ xb < w'.heap.size := by
  refine (rnum_calls h.rr h.sz).mono ?_
  rintro e w' ⟨rfl, h1, h2⟩
  have s := h.step hz h1 h2
  exact ⟨_, _, _, rfl, ⟨rfl⟩, s, (cell_of_row w' xb 2 _ _ _ s.x).trans rfl, (Array.getElem?_eq_some_iff.1 s.x).1⟩
theorem od_text {w w1 wr : World} {g xb : Nat} {cl sq : Int} {l : List FieldR} {ok : Bool} {A : Option Addr} {m d : Nat} {out : List OpR} (h : OdS w w1 wr g xb cl sq l ok A m d out) (hz : w.heap.size ≤ w1.heap.size) :
    Calls Tryz.prog 51 #[.pointer (some ⟨g, 0, none⟩)] wr fun e w' => ∃ v l' ok', e = .returned (.string v) ∧ Asd (txtP l ok = ⟨v, l', ok'⟩) ∧ OdS w w1 w' g xb cl sq l' ok' A m d out ∧ w'.cell? ⟨xb, 2, none⟩ = some (.slice A m d) ∧ xb < w'.heap.size := by
  refine (rtext_calls h.rr h.sz).mono ?_
  rintro e w' ⟨rfl, h1, h2⟩
  have s := h.step hz h1 h2
  exact ⟨_, _, _, rfl, ⟨rfl⟩, s, (cell_of_row w' xb 2 _ _ _ s.x).trans rfl, (Array.getElem?_eq_some_iff.1 s.x).1⟩
theorem OdS.put {w w1 wr w' : World} {g xb : Nat} {cl sq : Int} {l : List FieldR} {ok : Bool} {A A' : Option Addr} {m d m' d' : Nat} {out out' : List OpR} (h : OdS w w1 wr g xb cl sq l ok A m d out) (hz : w.heap.size ≤ w1.heap.size) (hx : w1.heap.size ≤ xb) (hx2 : w1.heap.size = w.heap.size + 1) (k : Kp 79 w.heap.size wr w') (ho : w'.ownsRow w.heap.size 79 6 (.slice A' m' d') m' (opCells out')) :
    OdS w w1 (w'.setCell ⟨xb, 2, none⟩ (.slice A' m' d')) g xb cl sq l ok A' m' d' out' := by
  have hX := k.blk h.x (by decide)
  have hR := k.blk h.res (by decide)
  obtain ⟨⟨RA, Rn, Rc, hG, hRd⟩, hge⟩ := h.rr
  have hG' := k.blk hG (by decide)
  have hgx : g ≠ xb := fun e => by
    subst e
    rw [h.x] at hG
    injection hG with hG
    injection hG with _ hG
    exact absurd hG (by decide)
  have hrx : w.heap.size ≠ xb := by omega
  have hlow : ∀ b : Nat, b < w1.heap.size → w'.heap[b]? = wr.heap[b]? := fun b hb => by
    rcases Nat.lt_or_ge b w.heap.size with h1 | h1
    · exact k.below.block b h1
    · obtain rfl : b = w.heap.size := by omega
      rw [hR, h.res]
  refine ⟨(h.below.trans k.below).setCell (Nat.le_trans hz hx) _, ?_, ⟨⟨RA, Rn, Rc, ?_, ?_⟩, hge⟩, ?_, ?_, ?_⟩
  · have := k.size; have := h.sz; simp [World.setCell]; omega
  · rw [Below.heap_setCell _ ⟨xb, 2, none⟩ _ g hgx]; exact hG'
  · have h1 : Rd w1.heap.size 94 w' 3 RA Rn Rc (fieldCells l) := hRd.keepT k.size (fun b hb => hlow b hb) (fun b cs fr hb => by rw [hb]; exact k.rest b _ hb (fun cs' fr' e => by injection e with _ e; exact absurd e (by decide)))
    exact h1.setCell (cs := #[.int .i64 cl, .int .i64 sq, .slice A m d]) hX (by decide) hx _
  · rw [Below.heap_setCell _ ⟨xb, 2, none⟩ _ _ hrx]; exact hR
  · simp only [World.setCell, Array.getElem?_modify, hX, if_true, Option.map_some]
    rfl
  · exact ho.kept (gb_cell' _ _ _ _) (.inr fun e => by
      obtain ⟨⟨cs, fr, h2⟩, _⟩ := own_istM ho _ e
      rw [hX] at h2
      injection h2 with h2
      injection h2 with _ h2
      exact absurd h2 (by decide))

set_option maxHeartbeats 16000000 in
set_option maxRecDepth 100000 in
theorem OpDecode_good (b : ByteArray) (w : World) (h1 : ¬ 262144 < b.size) (h2 : (decP b).code = 0) : Calls Tryz.prog 32 #[.string b] w (ODecPost w (odecP b)) := by
  have hal := (Below.refl w.heap.size w).alloc (Nat.le_refl _) (.cells #[.int .i64 0, .int .i64 0, .slice none 0 0] 46)
  have B1 := Asd.mk hal
  have H1 := Asd.mk (heap_alloc_new w (.cells #[.int .i64 0, .int .i64 0, .slice none 0 0] 46))
  have C : Asd (∀ W, Calls Tryz.prog 49 #[.string b] W fun e w' => Below W.heap.size W w' ∧ ∃ g, e = .returned (.tuple #[.pointer (some ⟨g, 0, none⟩), .int .i64 0]) ∧ Rr W.heap.size w' g (decP b).l true) := ⟨fun W => (open_calls b W).mono (by
    rintro e w' ⟨h0, ⟨h3, _⟩ | ⟨_, h3, _⟩ | ⟨_, _, h3⟩⟩
    · exact absurd h3 h1
    · exact absurd h2 h3
    · exact ⟨h0, h3⟩)⟩
  obtain ⟨hsh, hlen⟩ := decP_small b
  have SH : Asd (Short (decP b).l) := ⟨hsh⟩
  have DP : Asd (odecP b = _) := ⟨by unfold odecP; rw [if_neg h1, if_neg (by rw [h2]; simp)]⟩
  simp only at DP
  have hz1 : w.heap.size ≤ (w.alloc (.cells #[.int .i64 0, .int .i64 0, .slice none 0 0] 46)).heap.size := by simp
  have hw1 : Asd ((w.alloc (.cells #[.int .i64 0, .int .i64 0, .slice none 0 0] 46)).heap.size = w.heap.size + 1) := ⟨by simp⟩
  clear hal hsh h1 h2
  generalize (decP b).l = l0 at C SH DP hlen
  go_enter Tryz.func32, Tryz.ntmps32
  go_upto_region 1 with fail
  generalize w.alloc (.cells #[.int .i64 0, .int .i64 0, .slice none 0 0] 46) = w1 at B1 H1 hz1 hw1 ⊢
  go_wp2_with fail
  refine (C.out _).mono ?_
  rintro e w2 ⟨hb2, g, rfl, hr2⟩
  have B2 := Asd.mk (B1.out.trans (hb2.mono B1.out.size))
  have H2 := Asd.mk ((hb2.block _ (Array.getElem?_eq_some_iff.1 H1.out).1).trans H1.out)
  have RN := Asd.mk (rnum_calls hr2 hb2.size)
  have hz2 := hb2.size
  clear hb2 hr2 C H1 B1
  go_wp2_with fail
  refine RN.out.mono ?_
  rintro e w3 ⟨rfl, hr3, hk3⟩
  have B3 := Asd.mk (B2.out.trans (hk3.below.mono hz1))
  have H3 := Asd.mk (hk3.blk H2.out rfl)
  have hz3 := Nat.le_trans hz2 hk3.size
  have hl1 := (fldP_len false l0 true)
  have hs1 := fldP_short false true SH.out
  have RN := Asd.mk (rnum_calls hr3 hz3)
  clear hr3 hk3 B2 H2 hz2
  unfold numP at RN DP ⊢
  simp only at RN DP ⊢
  generalize fldP false l0 true = a at *
  go_wp2_with fail
  refine RN.out.mono ?_
  rintro e w4 ⟨rfl, hr4, hk4⟩
  have B4 := Asd.mk (B3.out.trans (hk4.below.mono hz1))
  have H4 := Asd.mk (hk4.blk H3.out rfl)
  have hz4 := Nat.le_trans hz3 hk4.size
  have hl2 := (fldP_len false a.l a.ok)
  have hs2 := fldP_short false a.ok hs1.2.1
  have R4 := Asd.mk hr4
  clear RN hr4 hk4 B3 H3 hz3
  generalize fldP false a.l a.ok = s at R4 DP hl2 hs2 ⊢
  have hal : Below w4.heap.size w4 (w4.alloc (.cells #[.int .i64 a.v.n, .int .i64 s.v.n, .slice none 0 0] 46)) := (Below.refl _ _).alloc (Nat.le_refl _) _
  have B5 := Asd.mk (B4.out.trans (hal.mono (Nat.le_trans hz1 hz4)))
  have H5 := Asd.mk ((hal.block _ (Array.getElem?_eq_some_iff.1 H4.out).1).trans H4.out)
  have X5 := Asd.mk (heap_alloc_new w4 (.cells #[.int .i64 a.v.n, .int .i64 s.v.n, .slice none 0 0] 46))
  have hz5 : w1.heap.size ≤ (w4.alloc (.cells #[.int .i64 a.v.n, .int .i64 s.v.n, .slice none 0 0] 46)).heap.size := by simp; omega
  have RN := Asd.mk (rnum_calls (rr_below R4.out hal) hz5)
  clear hal B4 H4 R4
  go_upto_region 5 with fail
  obtain ⟨xb, hxb⟩ : ∃ xb, xb = w4.heap.size := ⟨_, rfl⟩
  have hxw : w.heap.size ≤ xb := by omega
  have hxw1 : w1.heap.size ≤ xb := by omega
  rw [← hxb] at X5 ⊢
  generalize w4.alloc (.cells #[.int .i64 a.v.n, .int .i64 s.v.n, .slice none 0 0] 46) = w5 at B5 H5 X5 RN hz5 ⊢
  clear hxb hz4
  unfold numP at RN
  simp only at RN
  have hl3 := (fldP_len false s.l s.ok)
  have hs3 := fldP_short false s.ok hs2.2.1
  have hn3 := fldP_most false s.l s.ok
  generalize fldP false s.l s.ok = n at RN DP hl3 hs3 hn3
  obtain ⟨NN, hNN⟩ : ∃ NN : Nat, n.v.n = NN := ⟨n.v.n.toNat, by omega⟩
  have hNb : NN ≤ 1099511627776 := by omega
  rw [hNN] at RN DP
  simp only [Int.toNat_natCast] at DP
  go_wp2_with fail
  refine RN.out.mono ?_
  rintro e w6 ⟨rfl, hr6, hk6⟩
  have S6 : Asd (OdS w w1 w6 g xb a.v.n s.v.n n.l n.ok none 0 0 []) := ⟨⟨B5.out.trans (hk6.below.mono hz1), Nat.le_trans hz5 hk6.size, hr6, hk6.blk H5.out rfl, hk6.blk X5.out rfl, World.ownsRow_nil _ _ _ _⟩⟩
  have L6 : Asd (n.ok = true → 0 + n.l.length ≤ 4096) := ⟨fun _ => by omega⟩
  have F6 : Asd (Short n.l ∧ ∀ x ∈ ([] : List OpR), Fits x) := ⟨hs3.2.1, fun x hx => by cases hx⟩
  clear hr6 hk6 RN B5 H5 X5 hz5 hl1 hl2 hl3 hs1 hs2 hs3 hn3 hNN SH hlen
  go_wp2_with fail
  go_loopw [23] (fun s23 wr => ∃ (i m d : Nat) (A : Option Addr) (l : List FieldR) (ok : Bool) (out : List OpR), s23 = .int .i64 i ∧ i ≤ NN ∧ m ≤ 4097 ∧ Asd (ok = true → m + l.length ≤ 4096) ∧ Asd (opsRd (NN - i) l ok out = opsRd NN n.l n.ok []) ∧ Asd (out.length = m) ∧ Asd (Short l ∧ ∀ x ∈ out, Fits x) ∧ Asd (OdS w w1 wr g xb a.v.n s.v.n l ok A m d out)) (fun s23 _ => NN - (intOf s23).toNat)
  case atStart => exact ⟨0, 0, 0, none, n.l, n.ok, [], rfl, Nat.zero_le _, by omega, L6, ⟨rfl⟩, ⟨rfl⟩, F6, S6⟩
  case round =>
    obtain ⟨i, m, d, A, l, ok, out, rfl, hi, hm, LL, OR, OL, FF, SS⟩ := hrel
    clear S6 L6 F6
    have x0 := (cell_of_row wr xb 0 _ _ _ SS.out.x).trans rfl
    have x1 := (cell_of_row wr xb 1 _ _ _ SS.out.x).trans rfl
    have x2 := (cell_of_row wr xb 2 _ _ _ SS.out.x).trans rfl
    by_cases hgo : i < NN ∧ ok = true
    · obtain ⟨hlt, rfl⟩ := hgo
      have hml : m ≤ 4096 := by have := LL.out rfl; omega
      obtain ⟨⟨RA, Rn, Rc, hRG, _⟩, _⟩ := SS.out.rr
      have r1 := (cell_of_row wr g 1 _ _ _ hRG).trans rfl
      have rl : g < wr.heap.size := (Array.getElem?_eq_some_iff.1 hRG).1
      clear hRG
      go_upto_region 8 with fail
      have NX : Asd (∀ v l6 k6, opRd l true = ⟨v, l6, k6⟩ → opsRd (NN - (i + 1)) l6 k6 (out ++ [v]) = opsRd NN n.l n.ok [] ∧ (k6 = true → m + 1 + l6.length ≤ 4096) ∧ (Short l6 ∧ ∀ x ∈ out ++ [v], Fits x)) := ⟨fun v l6 k6 he => by
        have h1 := OR.out
        rw [show NN - i = (NN - (i + 1)) + 1 by omega] at h1
        rw [opsRd_succ, he] at h1
        have h2 := opRd_len l true
        rw [he] at h2
        have h3 := opRd_short true FF.out.1
        rw [he] at h3
        refine ⟨h1, fun hk => ?_, h3.2, fun x hx => ?_⟩
        · have := h2.2 hk
          have := LL.out rfl
          simp only at *
          omega
        · rcases List.mem_append.1 hx with hx | hx
          · exact FF.out.2 x hx
          · obtain rfl := List.mem_singleton.1 hx
            exact h3.1⟩
      have OL2 : Asd (∀ v, (out ++ [v]).length = m + 1) := ⟨fun v => by rw [List.length_append, OL.out]; rfl⟩
      have hxw2 : w1.heap.size ≤ xb := hxw1
      have HLT := Asd.mk hlt
      have S0 := Asd.mk SS.out.dr
      have hxl : xb < wr.heap.size := (Array.getElem?_eq_some_iff.1 SS.out.x).1
      clear r1 rl x0 x1
      have t1 : True := trivial
      have t2 : True := trivial
      have t3 : True := trivial
      have t4 : True := trivial
      have t5 : True := trivial
      have t6 : True := trivial
      clear DP RN
      go_region_law (first
        | (refine step_append_mine (base := w.heap.size) (own := w.heap.size) (n := m) (m := 1) (v := .slice A m d) (xs := opCells out) (ys := [.int .i64 v1, .string v2, .string v3, .int .i64 v4, .int .i64 v5, .int .i64 v6]) rfl (.tmp 31) (.tmp 45) 39 rfl elt_opN rfl rfl (S6.out.own.alloc _) (Rd.new_ rfl rfl) (ops_one [⟨v1, v2, v3, v4, v5, v6⟩]) (by simp only [maxLen]; omega) (by omega) (by have := S6.out.below.size; simp; omega) ?_
           intro v' w10 O10' G10'
           obtain ⟨A10, d10, rfl, _⟩ := Rd.of_own (base := w.heap.size) O10'
           have KA' := ((Kp.refl 79 w.heap.size _).alloc S6.out.below.size _).trans (Kp.own (S6.out.own.alloc _) G10' (by have := S6.out.below.size; simp; omega))
           have x210 := (cell_of_row w10 xb 2 _ _ _ (KA'.blk S6.out.x (by decide))).trans rfl
           have xf : w10.frozen? ⟨xb, 2, none⟩ = false := (by simp [World.frozen?, KA'.blk S6.out.x (by decide)])
           have KA := Asd.mk KA'
           have O10 := Asd.mk O10'
           clear O10' G10' KA')
        | (have _t := t1; go_simp; go_at_call 50; refine (od_num S0.out hz1).mono ?_; rintro e u1 ⟨v1, l1, k1, rfl, E1, S1', y1, h1⟩; have S1 := Asd.mk S1'; clear S1' t1 _t; go_wp2_with fail)
        | (have _t := t2; go_simp; go_at_call 51; refine (od_text S1.out hz1).mono ?_; rintro e u2 ⟨v2, l2, k2, rfl, E2, S2', y2, h2⟩; have S2 := Asd.mk S2'; clear S2' t2 _t; go_wp2_with fail)
        | (have _t := t3; go_simp; go_at_call 51; refine (od_text S2.out hz1).mono ?_; rintro e u3 ⟨v3, l3, k3, rfl, E3, S3', y3, h3⟩; have S3 := Asd.mk S3'; clear S3' t3 _t; go_wp2_with fail)
        | (have _t := t4; go_simp; go_at_call 50; refine (od_num S3.out hz1).mono ?_; rintro e u4 ⟨v4, l4, k4, rfl, E4, S4', y4, h4⟩; have S4 := Asd.mk S4'; clear S4' t4 _t; go_wp2_with fail)
        | (have _t := t5; go_simp; go_at_call 50; refine (od_num S4.out hz1).mono ?_; rintro e u5 ⟨v5, l5, k5, rfl, E5, S5', y5, h5⟩; have S5 := Asd.mk S5'; clear S5' t5 _t; go_wp2_with fail)
        | (have _t := t6; go_simp; go_at_call 50; refine (od_num S5.out hz1).mono ?_; rintro e u6 ⟨v6, l6, k6, rfl, E6, S6', y6, h6⟩; have S6 := Asd.mk S6'; clear S6' t6 _t; go_wp2_with fail))
      all_goals
        have EX : Asd (opRd l true = ⟨⟨v1, v2, v3, v4, v5, v6⟩, l6, k6⟩) := ⟨by
          unfold opRd
          simp only
          rw [E1.out]
          simp only
          rw [E2.out]
          simp only
          rw [E3.out]
          simp only
          rw [E4.out]
          simp only
          rw [E5.out]
          simp only
          rw [E6.out]⟩
        obtain ⟨n1, n2, n3⟩ := NX.out _ _ _ EX.out
        have P1 := Asd.mk n1
        have P2 := Asd.mk n2
        have P3 := Asd.mk n3
        have O11 : Asd (w10.ownsRow w.heap.size 79 6 (.slice A10 (m + 1) d10) (m + 1) (opCells (out ++ [⟨v1, v2, v3, v4, v5, v6⟩]))) := ⟨by
          have := O10.out
          unfold opCells at this ⊢
          rw [List.flatMap_append]
          simpa [OpR.enc] using this⟩
        have SF := Asd.mk (S6.out.put hz1 hxw2 hw1.out KA.out O11.out)
        clear n1 n2 n3 E1 E2 E3 E4 E5 E6 y1 y2 y3 y4 y5 y6 h1 h2 h3 h4 h5 h6 S1 S2 S3 S4 S5 S6 O10 O11 KA x210 xf x2 S0 NX
        go_wp2_with fail
        have hlt2 := HLT.out
        go_roundw
        case measure => simp [intOf]; omega
        case rel => exact ⟨i + 1, m + 1, d10, A10, l6, k6, _, by go_num, by omega, by omega, P2, P1, ⟨OL2.out _⟩, P3, SF⟩
    · have HD : Asd (opsRd NN n.l n.ok [] = ⟨out, l, ok⟩) := ⟨by
        rw [← OR.out]
        by_cases h : i < NN
        · obtain ⟨k, hk⟩ : ∃ k, NN - i = k + 1 := ⟨NN - i - 1, by omega⟩
          have : ok = false := by
            cases ok
            · rfl
            · exact absurd ⟨h, rfl⟩ hgo
          rw [hk, this]
          rfl
        · rw [show NN - i = 0 by omega]
          rfl⟩
      simp only [HD.out] at DP
      have WC := Asd.mk (rwhole_calls SS.out.rr)
      have HC : Asd ((i < NN ∧ ok = false) ∨ i = NN) := ⟨by
        by_cases h : i < NN
        · left
          refine ⟨h, ?_⟩
          cases ok
          · rfl
          · exact absurd ⟨h, rfl⟩ hgo
        · right; omega⟩
      obtain ⟨⟨RA, Rn, Rc, hRG, _⟩, _⟩ := SS.out.rr
      have r1 := (cell_of_row wr g 1 _ _ _ hRG).trans rfl
      have rl : g < wr.heap.size := (Array.getElem?_eq_some_iff.1 hRG).1
      have FT := Asd.mk FF.out.2
      clear hRG HD OR LL FF hgo RN
      have RD : Asd (Rd w.heap.size 79 wr 6 A m d (opCells out)) := ⟨by
        obtain ⟨A', c', e', hr⟩ := Rd.of_own (base := w.heap.size) SS.out.own
        injection e' with e1 _ e2
        subst e1 e2
        exact hr⟩
      have CK := Asd.mk (CheckAll_calls a.v.n s.v.n RD.out FT.out (by omega))
      have RS := SS.out.res
      have h0 := (cell_of_row wr w.heap.size 0 _ _ _ RS).trans rfl
      have h1 := (cell_of_row wr w.heap.size 1 _ _ _ RS).trans rfl
      have h2 := (cell_of_row wr w.heap.size 2 _ _ _ RS).trans rfl
      have hf : ∀ i, wr.frozen? ⟨w.heap.size, i, none⟩ = false := fun i => by simp [World.frozen?, RS]
      have BL := Asd.mk SS.out.below
      have OW := Asd.mk SS.out.own
      have RS2 := Asd.mk RS
      have XS2 := Asd.mk SS.out.x
      have FB2 : Asd (∀ W, Below wr.heap.size wr W → (W.heap[w.heap.size]? = some (.cells #[.int .i64 0, .int .i64 0, .slice none 0 0] 46 (0, 0)) ∧ W.heap[xb]? = some (.cells #[.int .i64 a.v.n, .int .i64 s.v.n, .slice A m d] 46 (0, 0)) ∧ W.ownsRow w.heap.size 79 6 (.slice A m d) m (opCells out) ∧ Below w.heap.size w W)) := ⟨fun W h => ⟨(h.block _ (Array.getElem?_eq_some_iff.1 RS2.out).1).trans RS2.out, (h.block _ (Array.getElem?_eq_some_iff.1 XS2.out).1).trans XS2.out, OW.out.kept (gb_below h none) (by cases (Value.slice A m d).ownBlock <;> simp), BL.out.trans (h.mono BL.out.size)⟩⟩
      clear RS SS RD
      generalize hwb : (ok && decide (l.length = 0)) = wb at WC DP
      clear hwb
      generalize hrq : reqOk a.v.n s.v.n out = rq at CK DP
      clear hrq
      cases wb with
      | false =>
        have DP2 : Asd (odecP b = reqD0 80) := ⟨by have := DP.out; simpa using this⟩
        clear DP CK FB2
        rcases HC.out with ⟨hlt, hok⟩ | hlt
        all_goals
          first | subst hok | subst hlt
          go_wp2_with (go_at_call 52; refine WC.out.mono ?_; rintro e w9 ⟨rfl, hw9⟩; subst hw9)
          refine bodyPost_ret (v := .tuple #[.agg #[.int .i64 0, .int .i64 0, .slice none 0 0], .int .i64 80]) (by simp [results, Tryz.results32, go_sem, h0, h1, h2, hf]) rfl ?_
          rw [DP2.out]
          exact ⟨none, 0, 0, rfl, World.ownsRow_nil _ _ _ _, ((BL.out.setCell (Nat.le_refl _) _).setCell (Nat.le_refl _) _).setCell (Nat.le_refl _) _⟩
      | true =>
        cases rq with
        | false =>
          have DP2 : Asd (odecP b = reqD0 80) := ⟨by have := DP.out; simpa using this⟩
          simp only [Bool.false_eq_true, if_false] at CK
          clear DP h0 h1 h2 hf
          rcases HC.out with ⟨hlt, hok⟩ | hlt
          all_goals
            first | subst hok | subst hlt
            go_upto_if 56 with (first | (go_at_call 52; refine WC.out.mono ?_; rintro e w9 ⟨rfl, hw9⟩; subst hw9) | (go_at_call 20; refine CK.out.mono ?_; rintro e w9 ⟨rfl, hb9⟩))
            obtain ⟨j1, j2, j3, j4⟩ := FB2.out _ hb9
            have h0 := (cell_of_row w9 w.heap.size 0 _ _ _ j1).trans rfl
            have h1 := (cell_of_row w9 w.heap.size 1 _ _ _ j1).trans rfl
            have h2 := (cell_of_row w9 w.heap.size 2 _ _ _ j1).trans rfl
            have hf : ∀ i, w9.frozen? ⟨w.heap.size, i, none⟩ = false := fun i => by simp [World.frozen?, j1]
            have J4 := Asd.mk j4
            clear j1 j2 j3 j4 hb9
            go_wp2_with fail
            refine bodyPost_ret (v := .tuple #[.agg #[.int .i64 0, .int .i64 0, .slice none 0 0], .int .i64 80]) (by simp [results, Tryz.results32, go_sem, h0, h1, h2, hf]) rfl ?_
            rw [DP2.out]
            exact ⟨none, 0, 0, rfl, World.ownsRow_nil _ _ _ _, ((J4.out.setCell (Nat.le_refl _) _).setCell (Nat.le_refl _) _).setCell (Nat.le_refl _) _⟩
        | true =>
          have DP2 : Asd (odecP b = ⟨a.v.n, s.v.n, out, 0⟩) := ⟨by have := DP.out; simpa using this⟩
          simp only [if_true] at CK
          clear DP h0 h1 h2 hf
          rcases HC.out with ⟨hlt, hok⟩ | hlt
          all_goals
            first | subst hok | subst hlt
            go_upto_if 56 with (first | (go_at_call 52; refine WC.out.mono ?_; rintro e w9 ⟨rfl, hw9⟩; subst hw9) | (go_at_call 20; refine CK.out.mono ?_; rintro e w9 ⟨rfl, hb9⟩))
            obtain ⟨j1, j2, j3, j4⟩ := FB2.out _ hb9
            have h0 := (cell_of_row w9 w.heap.size 0 _ _ _ j1).trans rfl
            have h1 := (cell_of_row w9 w.heap.size 1 _ _ _ j1).trans rfl
            have h2 := (cell_of_row w9 w.heap.size 2 _ _ _ j1).trans rfl
            have hf : ∀ i, w9.frozen? ⟨w.heap.size, i, none⟩ = false := fun i => by simp [World.frozen?, j1]
            have y0 := (cell_of_row w9 xb 0 _ _ _ j2).trans rfl
            have y1 := (cell_of_row w9 xb 1 _ _ _ j2).trans rfl
            have y2 := (cell_of_row w9 xb 2 _ _ _ j2).trans rfl
            have J1 := Asd.mk j1
            have J3 := Asd.mk j3
            have J4 := Asd.mk j4
            clear j1 j2 j3 j4 hb9
            go_wp2_with fail
            refine bodyPost_ret (v := .tuple #[.agg #[.int .i64 a.v.n, .int .i64 s.v.n, .slice A m d], .int .i64 0]) (by simp [results, Tryz.results32, go_sem, h0, h1, h2, hf]) rfl ?_
            rw [DP2.out]
            exact ⟨A, m, d, rfl, J3.out.kept (gb_trans (gb_trans (gb_cell' _ _ _ _) (gb_cell' _ _ _ _)) (gb_cell' _ _ _ _)) (.inr fun e => by
              obtain ⟨⟨cs, fr, h2⟩, _⟩ := own_istM J3.out _ e
              rw [J1.out] at h2
              injection h2 with h2
              injection h2 with _ h2
              exact absurd h2 (by decide)), ((J4.out.setCell (Nat.le_refl _) _).setCell (Nat.le_refl _) _).setCell (Nat.le_refl _) _⟩
theorem OpDecode_calls (b : ByteArray) (w : World) : Calls Tryz.prog 32 #[.string b] w (ODecPost w (odecP b)) := by
  by_cases h1 : 262144 < b.size
  · have e : odecP b = reqD0 2 := by unfold odecP; rw [if_pos h1]
    rw [e]
    exact OpDecode_bad b w 2 (.inl ⟨h1, rfl⟩)
  · by_cases h2 : (decP b).code = 0
    · exact OpDecode_good b w h1 h2
    · have e : odecP b = reqD0 80 := by unfold odecP; rw [if_neg h1, if_pos h2]
      rw [e]
      exact OpDecode_bad b w 80 (.inr ⟨h1, h2, rfl⟩)
end Go.Proofs.YtallnibjmffahaaGreatDoor

/- The table's operations that write. -/
import Derived.Test.YtallnibjmffahaaGreatDoorJ03
set_option linter.unusedVariables false
set_option linter.unusedSimpArgs false
namespace Go.Proofs.YtallnibjmffahaaGreatDoor
open Go.RowKit

theorem Tab.set {base g c : Nat} {w : World} {l : List Rw} {A : Option Addr} (h : Tab base w g l A c) {p : Addr} {U : TypeId} (hT : IsT w p.block U) (h1 : U ≠ 131) (h2 : U ≠ 77) (hge : base ≤ p.block) (u : Value) : Tab base (w.setCell p u) g l A c := by
  obtain ⟨cs, fr, e⟩ := hT
  have hne : g ≠ p.block := by
    rintro rfl
    rw [h.blk] at e
    injection e with e
    injection e with _ e
    exact h2 e.symm
  exact ⟨(Below.heap_setCell w p u g hne).trans h.blk, h.ge, h.rd.setCell e h1 hge u, h.srt, h.big, by simpa [World.setCell] using h.old⟩
theorem Tab.set4 {base g c : Nat} {w : World} {l : List Rw} {A : Option Addr} (h : Tab base w g l A c) {r : Nat} {U : TypeId} (hT : IsT w r U) (h1 : U ≠ 131) (h2 : U ≠ 77) (hge : base ≤ r) (u0 u1 u2 u3 : Value) :
    Tab base ((((w.setCell ⟨r, 0, none⟩ u0).setCell ⟨r, 1, none⟩ u1).setCell ⟨r, 2, none⟩ u2).setCell ⟨r, 3, none⟩ u3) g l A c :=
  (((h.set (p := ⟨r, 0, none⟩) hT h1 h2 hge u0).set (p := ⟨r, 1, none⟩) (hT.set _ _) h1 h2 hge u1).set (p := ⟨r, 2, none⟩) ((hT.set _ _).set _ _) h1 h2 hge u2).set (p := ⟨r, 3, none⟩) (((hT.set _ _).set _ _).set _ _) h1 h2 hge u3

/-- What a result that is no list of rows looks like. -/
def Res.flat (r : Res) : Value := .agg #[.int .i64 r.code, .int .i64 r.stamp, .string r.val, .slice none 0 0]

def WritePost (base : Nat) (w : World) (A : Option Addr) (g : Nat) (p : List Rw × Res) (e : Ending) (w' : World) : Prop :=
  e = .returned p.2.flat ∧ w.grownBy w' (some g) ∧ ∃ A' c', Tab base w' g p.1 A' c' ∧ Fr w A A'

theorem WritePost.same {base g c : Nat} {w w' : World} {l : List Rw} {A : Option Addr} (h : Tab base w g l A c) (hb : Below w.heap.size w w') {r : Res} {e : Ending} (he : e = .returned r.flat) : WritePost base w A g (l, r) e w' :=
  ⟨he, gb_below hb _, A, c, h.below hb, .inl rfl⟩

set_option maxHeartbeats 2000000 in
set_option maxRecDepth 100000 in
theorem write_calls {base g c : Nat} {w : World} {l : List Rw} {A : Option Addr} (h : Tab base w g l A c) (x : OpR) (hv : x.val.size ≤ 9223372036854775807) :
    Calls Tryz.prog 75 #[.pointer (some ⟨g, 0, none⟩), .agg x.enc.toArray] w (WritePost base w A g (writeP l x)) := by
  obtain ⟨kind, key, val, stamp, test, most⟩ := x
  simp only at hv
  generalize hp : writeP l ⟨kind, key, val, stamp, test, most⟩ = p
  have P := Asd.mk hp
  clear hp
  unfold OpR.enc
  have H := Asd.mk h
  have hat := fun (W : World) (hb : Below w.heap.size w W) => at_calls (h.below hb) key
  have AT := Asd.mk hat
  have hgl := h.lt
  clear h hat
  cases ht : there key l with
  | true =>
    obtain ⟨hpl, hpk⟩ := pos_lt H.out.srt ht
    have T := Asd.mk ht
    have hpc : (pos key l : Int) < (l.length : Int) := by omega
    have hl4 := H.out.big
    have RA := Asd.mk (rowAt_eq hpl)
    generalize hs : l[pos key l] = r at RA
    have SS := Asd.mk hs
    clear hs hpk ht
    by_cases h1 : kind = 1
    · subst h1
      go_enter Tryz.func75, Tryz.ntmps75
      go_wp2_with fail
      refine (AT.out _ (((Below.refl _ _).alloc (Nat.le_refl _) _).alloc (by simp) _)).mono ?_
      rw [T.out]
      rintro e w1 ⟨rfl, hb1⟩
      obtain ⟨hc1, hf1⟩ := bcell hb1
      have hs1 : w.heap.size + 1 < w1.heap.size := by have := hb1.size; simp at this; omega
      have hB : Below w.heap.size w w1 := (((Below.refl _ _).alloc (Nat.le_refl _) _).alloc (by simp) _).trans (hb1.mono (by simp; omega))
      have hres : IsT w1 (w.heap.size + 1) 81 := ⟨_, _, (hb1.block _ (by simp)).trans (by simpa using heap_alloc_new (w.alloc _) _)⟩
      have RES := Asd.mk hres
      clear hres
      have TB := Asd.mk (H.out.below hB)
      have hcg := TB.out.cell
      obtain ⟨b, off, rfl, hbl, hl, c0, c1, c2⟩ := TB.out.rd.row (i := pos key l) hpl
      rw [SS.out] at c0 c1 c2
      have BB := Asd.mk hB
      clear hB hb1
      go_wp2_with fail
      refine (refused_calls _ _ _).mono ?_
      rintro e w2 ⟨rfl, hb2⟩
      replace hb2 : Below w1.heap.size w1 w2 := ⟨hb2.os, hb2.tape, hb2.output, hb2.size, hb2.block⟩
      obtain ⟨hc2, hf2⟩ := bcell hb2
      have hs2 : w.heap.size + 1 < w2.heap.size := by have := hb2.size; omega
      have B2 := Asd.mk hb2
      clear hb2
      go_wp2_with fail
      refine bodyPost_ret (v := (Res.fail 90 r.stamp).flat) (by simp [results, Tryz.results75, go_sem, Res.flat, Res.fail, hc1, hc2, hs1, hs2]) rfl ?_
      rw [← P.out, show writeP l _ = (l, Res.fail 90 r.stamp) from by simp [writeP, T.out, RA.out, SS.out]]
      refine WritePost.same H.out ?_ rfl
      repeat (first | exact BB.out.trans (B2.out.mono (by omega)) | refine Below.setCell ?_ (by simp) _)
    · have k1 : (kind == 1) = false := by simpa using h1
      by_cases h2 : test ≠ 0 ∧ test ≠ r.stamp
      · have q1 : (test == 0) = false := by simpa using h2.1
        have q1' : (test != 0) = true := by simpa using h2.1
        have q2 : (test == r.stamp) = false := by simpa using h2.2
        have q2' : (test != r.stamp) = true := by simpa using h2.2
        go_enter Tryz.func75, Tryz.ntmps75
        go_wp2_with fail
        refine (AT.out _ (((Below.refl _ _).alloc (Nat.le_refl _) _).alloc (by simp) _)).mono ?_
        rw [T.out]
        rintro e w1 ⟨rfl, hb1⟩
        obtain ⟨hc1, hf1⟩ := bcell hb1
        have hs1 : w.heap.size + 1 < w1.heap.size := by have := hb1.size; simp at this; omega
        have hB : Below w.heap.size w w1 := (((Below.refl _ _).alloc (Nat.le_refl _) _).alloc (by simp) _).trans (hb1.mono (by simp; omega))
        have hres : IsT w1 (w.heap.size + 1) 81 := ⟨_, _, (hb1.block _ (by simp)).trans (by simpa using heap_alloc_new (w.alloc _) _)⟩
        have RES := Asd.mk hres
        clear hres
        have TB := Asd.mk (H.out.below hB)
        have hcg := TB.out.cell
        obtain ⟨b, off, rfl, hbl, hl, c0, c1, c2⟩ := TB.out.rd.row (i := pos key l) hpl
        rw [SS.out] at c0 c1 c2
        have BB := Asd.mk hB
        clear hB hb1
        go_wp2_with fail
        go_quiet (fail)
        go_wp2_with fail
        refine (refused_calls _ _ _).mono ?_
        rintro e w2 ⟨rfl, hb2⟩
        replace hb2 : Below w1.heap.size w1 w2 := ⟨hb2.os, hb2.tape, hb2.output, hb2.size, hb2.block⟩
        obtain ⟨hc2, hf2⟩ := bcell hb2
        have hs2 : w.heap.size + 1 < w2.heap.size := by have := hb2.size; omega
        have B2 := Asd.mk hb2
        clear hb2
        go_wp2_with fail
        refine bodyPost_ret (v := (Res.fail 92 r.stamp).flat) (by simp [results, Tryz.results75, go_sem, Res.flat, Res.fail, hc1, hc2, hs1, hs2]) rfl ?_
        rw [← P.out, show writeP l _ = (l, Res.fail 92 r.stamp) from by simp [writeP, T.out, RA.out, SS.out, h1, h2]]
        refine WritePost.same H.out ?_ rfl
        repeat (first | exact BB.out.trans (B2.out.mono (by omega)) | refine Below.setCell ?_ (by simp) _)
      · by_cases h3 : stamp ≤ r.stamp
        · have d3 : decide (stamp ≤ r.stamp) = true := by simpa using h3
          by_cases h4 : test = 0
          · subst h4
            go_enter Tryz.func75, Tryz.ntmps75
            go_wp2_with fail
            refine (AT.out _ (((Below.refl _ _).alloc (Nat.le_refl _) _).alloc (by simp) _)).mono ?_
            rw [T.out]
            rintro e w1 ⟨rfl, hb1⟩
            obtain ⟨hc1, hf1⟩ := bcell hb1
            have hs1 : w.heap.size + 1 < w1.heap.size := by have := hb1.size; simp at this; omega
            have hB : Below w.heap.size w w1 := (((Below.refl _ _).alloc (Nat.le_refl _) _).alloc (by simp) _).trans (hb1.mono (by simp; omega))
            have hres : IsT w1 (w.heap.size + 1) 81 := ⟨_, _, (hb1.block _ (by simp)).trans (by simpa using heap_alloc_new (w.alloc _) _)⟩
            have RES := Asd.mk hres
            clear hres
            have TB := Asd.mk (H.out.below hB)
            have hcg := TB.out.cell
            obtain ⟨b, off, rfl, hbl, hl, c0, c1, c2⟩ := TB.out.rd.row (i := pos key l) hpl
            rw [SS.out] at c0 c1 c2
            have BB := Asd.mk hB
            clear hB hb1
            go_wp2_with fail
            go_quiet (fail)
            go_wp2_with fail
            refine (refused_calls _ _ _).mono ?_
            rintro e w2 ⟨rfl, hb2⟩
            replace hb2 : Below w1.heap.size w1 w2 := ⟨hb2.os, hb2.tape, hb2.output, hb2.size, hb2.block⟩
            obtain ⟨hc2, hf2⟩ := bcell hb2
            have hs2 : w.heap.size + 1 < w2.heap.size := by have := hb2.size; omega
            have B2 := Asd.mk hb2
            clear hb2
            go_wp2_with fail
            refine bodyPost_ret (v := (Res.fail 92 r.stamp).flat) (by simp [results, Tryz.results75, go_sem, Res.flat, Res.fail, hc1, hc2, hs1, hs2]) rfl ?_
            rw [← P.out, show writeP l _ = (l, Res.fail 92 r.stamp) from by simp [writeP, T.out, RA.out, SS.out, h1, h3]]
            refine WritePost.same H.out ?_ rfl
            repeat (first | exact BB.out.trans (B2.out.mono (by omega)) | refine Below.setCell ?_ (by simp) _)
          · have q2 : test = r.stamp := by
              apply Classical.byContradiction
              intro h
              exact h2 ⟨h4, h⟩
            subst q2
            have q1 : (r.stamp == 0) = false := by simpa using h4
            have q1' : (r.stamp != 0) = true := by simpa using h4
            go_enter Tryz.func75, Tryz.ntmps75
            go_wp2_with fail
            refine (AT.out _ (((Below.refl _ _).alloc (Nat.le_refl _) _).alloc (by simp) _)).mono ?_
            rw [T.out]
            rintro e w1 ⟨rfl, hb1⟩
            obtain ⟨hc1, hf1⟩ := bcell hb1
            have hs1 : w.heap.size + 1 < w1.heap.size := by have := hb1.size; simp at this; omega
            have hB : Below w.heap.size w w1 := (((Below.refl _ _).alloc (Nat.le_refl _) _).alloc (by simp) _).trans (hb1.mono (by simp; omega))
            have hres : IsT w1 (w.heap.size + 1) 81 := ⟨_, _, (hb1.block _ (by simp)).trans (by simpa using heap_alloc_new (w.alloc _) _)⟩
            have RES := Asd.mk hres
            clear hres
            have TB := Asd.mk (H.out.below hB)
            have hcg := TB.out.cell
            obtain ⟨b, off, rfl, hbl, hl, c0, c1, c2⟩ := TB.out.rd.row (i := pos key l) hpl
            rw [SS.out] at c0 c1 c2
            have BB := Asd.mk hB
            clear hB hb1
            go_wp2_with fail
            go_quiet (fail)
            go_wp2_with fail
            refine (refused_calls _ _ _).mono ?_
            rintro e w2 ⟨rfl, hb2⟩
            replace hb2 : Below w1.heap.size w1 w2 := ⟨hb2.os, hb2.tape, hb2.output, hb2.size, hb2.block⟩
            obtain ⟨hc2, hf2⟩ := bcell hb2
            have hs2 : w.heap.size + 1 < w2.heap.size := by have := hb2.size; omega
            have B2 := Asd.mk hb2
            clear hb2
            go_wp2_with fail
            refine bodyPost_ret (v := (Res.fail 92 r.stamp).flat) (by simp [results, Tryz.results75, go_sem, Res.flat, Res.fail, hc1, hc2, hs1, hs2]) rfl ?_
            rw [← P.out, show writeP l _ = (l, Res.fail 92 r.stamp) from by simp [writeP, T.out, RA.out, SS.out, h1, h3]]
            refine WritePost.same H.out ?_ rfl
            repeat (first | exact BB.out.trans (B2.out.mono (by omega)) | refine Below.setCell ?_ (by simp) _)
        · have d3 : decide (stamp ≤ r.stamp) = false := by simpa using h3
          have h3' : ¬ stamp ≤ r.stamp := h3
          have wr : wrap64 ((pos key l : Int) + 1) = ((pos key l + 1 : Nat) : Int) := by unfold wrap64; omega
          by_cases h5 : (4096 : Int) < val.size
          · have h5' := h5
            by_cases h4 : test = 0
            · subst h4
              go_enter Tryz.func75, Tryz.ntmps75
              go_wp2_with fail
              refine (AT.out _ (((Below.refl _ _).alloc (Nat.le_refl _) _).alloc (by simp) _)).mono ?_
              rw [T.out]
              rintro e w1 ⟨rfl, hb1⟩
              obtain ⟨hc1, hf1⟩ := bcell hb1
              have hs1 : w.heap.size + 1 < w1.heap.size := by have := hb1.size; simp at this; omega
              have hB : Below w.heap.size w w1 := (((Below.refl _ _).alloc (Nat.le_refl _) _).alloc (by simp) _).trans (hb1.mono (by simp; omega))
              have hres : IsT w1 (w.heap.size + 1) 81 := ⟨_, _, (hb1.block _ (by simp)).trans (by simpa using heap_alloc_new (w.alloc _) _)⟩
              have RES := Asd.mk hres
              clear hres
              have TB := Asd.mk (H.out.below hB)
              have hcg := TB.out.cell
              obtain ⟨b, off, rfl, hbl, hl, c0, c1, c2⟩ := TB.out.rd.row (i := pos key l) hpl
              rw [SS.out] at c0 c1 c2
              have BB := Asd.mk hB
              clear hB hb1
              go_wp2_with fail
              go_quiet (fail)
              go_wp2_with fail
              refine (refused_calls _ _ _).mono ?_
              rintro e w2 ⟨rfl, hb2⟩
              replace hb2 : Below w1.heap.size w1 w2 := ⟨hb2.os, hb2.tape, hb2.output, hb2.size, hb2.block⟩
              obtain ⟨hc2, hf2⟩ := bcell hb2
              have hs2 : w.heap.size + 1 < w2.heap.size := by have := hb2.size; omega
              have B2 := Asd.mk hb2
              clear hb2
              go_wp2_with fail
              refine bodyPost_ret (v := (Res.fail 93 0).flat) (by simp [results, Tryz.results75, go_sem, Res.flat, Res.fail, hc1, hc2, hs1, hs2]) rfl ?_
              rw [← P.out, show writeP l _ = (l, Res.fail 93 0) from by have e1 : ¬ stamp ≤ r.stamp := (by omega); simp [writeP, T.out, RA.out, SS.out, h1, e1, h5]]
              refine WritePost.same H.out ?_ rfl
              repeat (first | exact BB.out.trans (B2.out.mono (by omega)) | refine Below.setCell ?_ (by simp) _)
            · have q2 : test = r.stamp := by
                apply Classical.byContradiction
                intro h
                exact h2 ⟨h4, h⟩
              subst q2
              have q1 : (r.stamp == 0) = false := by simpa using h4
              have q1' : (r.stamp != 0) = true := by simpa using h4
              go_enter Tryz.func75, Tryz.ntmps75
              go_wp2_with fail
              refine (AT.out _ (((Below.refl _ _).alloc (Nat.le_refl _) _).alloc (by simp) _)).mono ?_
              rw [T.out]
              rintro e w1 ⟨rfl, hb1⟩
              obtain ⟨hc1, hf1⟩ := bcell hb1
              have hs1 : w.heap.size + 1 < w1.heap.size := by have := hb1.size; simp at this; omega
              have hB : Below w.heap.size w w1 := (((Below.refl _ _).alloc (Nat.le_refl _) _).alloc (by simp) _).trans (hb1.mono (by simp; omega))
              have hres : IsT w1 (w.heap.size + 1) 81 := ⟨_, _, (hb1.block _ (by simp)).trans (by simpa using heap_alloc_new (w.alloc _) _)⟩
              have RES := Asd.mk hres
              clear hres
              have TB := Asd.mk (H.out.below hB)
              have hcg := TB.out.cell
              obtain ⟨b, off, rfl, hbl, hl, c0, c1, c2⟩ := TB.out.rd.row (i := pos key l) hpl
              rw [SS.out] at c0 c1 c2
              have BB := Asd.mk hB
              clear hB hb1
              go_wp2_with fail
              go_quiet (fail)
              go_wp2_with fail
              refine (refused_calls _ _ _).mono ?_
              rintro e w2 ⟨rfl, hb2⟩
              replace hb2 : Below w1.heap.size w1 w2 := ⟨hb2.os, hb2.tape, hb2.output, hb2.size, hb2.block⟩
              obtain ⟨hc2, hf2⟩ := bcell hb2
              have hs2 : w.heap.size + 1 < w2.heap.size := by have := hb2.size; omega
              have B2 := Asd.mk hb2
              clear hb2
              go_wp2_with fail
              refine bodyPost_ret (v := (Res.fail 93 0).flat) (by simp [results, Tryz.results75, go_sem, Res.flat, Res.fail, hc1, hc2, hs1, hs2]) rfl ?_
              rw [← P.out, show writeP l _ = (l, Res.fail 93 0) from by have e1 : ¬ stamp ≤ r.stamp := (by omega); simp [writeP, T.out, RA.out, SS.out, h1, e1, h5]]
              refine WritePost.same H.out ?_ rfl
              repeat (first | exact BB.out.trans (B2.out.mono (by omega)) | refine Below.setCell ?_ (by simp) _)
          · have h5' : ¬ (4096 : Int) < val.size := h5
            have h5'' : (val.size : Int) ≤ 4096 := by omega
            clear h5
            by_cases h4 : test = 0
            · subst h4
              go_enter Tryz.func75, Tryz.ntmps75
              go_wp2_with fail
              refine (AT.out _ (((Below.refl _ _).alloc (Nat.le_refl _) _).alloc (by simp) _)).mono ?_
              rw [T.out]
              rintro e w1 ⟨rfl, hb1⟩
              obtain ⟨hc1, hf1⟩ := bcell hb1
              have hs1 : w.heap.size + 1 < w1.heap.size := by have := hb1.size; simp at this; omega
              have hB : Below w.heap.size w w1 := (((Below.refl _ _).alloc (Nat.le_refl _) _).alloc (by simp) _).trans (hb1.mono (by simp; omega))
              have hres : IsT w1 (w.heap.size + 1) 81 := ⟨_, _, (hb1.block _ (by simp)).trans (by simpa using heap_alloc_new (w.alloc _) _)⟩
              have RES := Asd.mk hres
              clear hres
              have TB := Asd.mk (H.out.below hB)
              have hcg := TB.out.cell
              obtain ⟨b, off, rfl, hbl, hl, c0, c1, c2⟩ := TB.out.rd.row (i := pos key l) hpl
              rw [SS.out] at c0 c1 c2
              have BB := Asd.mk hB
              clear hB hb1
              go_wp2_with fail
              go_quiet (fail)
              go_wp2_with fail
              refine (splice_calls (base := base) (A := some ⟨b, off, none⟩) (c := c) (l := l) (m := [⟨key, stamp, val⟩]) ?_ (pos key l) (pos key l + 1) (by omega) (by omega) _ _ _ ?_ (by omega)).mono ?_
              · exact TB.out.below (by repeat (first | exact Below.refl _ _ | exact below_dn _ _ | refine Below.alloc ?_ (by simp) _))
              · exact Rd.new_ rfl rfl
              · rintro e w3 ⟨rfl, hg3, A3, c3, hh3, hr3, hfr3, hlt3⟩
                have hblk : ∀ b, b < w1.heap.size → b ≠ g → w3.heap[b]? = w1.heap[b]? := fun b hb hne => (hg3.block b (by simp; omega) (by simpa using hne)).trans (Below.heap_alloc _ _ _ hb)
                have hc3 : ∀ b o, b < w1.heap.size → b ≠ g → w3.cell? ⟨b, o, none⟩ = w1.cell? ⟨b, o, none⟩ := fun b o hb hne => World.cell?_of_block (w := w1) (hblk b hb hne)
                have hf3 : ∀ b o, b < w1.heap.size → b ≠ g → w3.frozen? ⟨b, o, none⟩ = w1.frozen? ⟨b, o, none⟩ := fun b o hb hne => World.frozen?_of_block (w := w1) (hblk b hb hne)
                have hs3 : w.heap.size + 1 < w3.heap.size := by have := hg3.size; simp at this; omega
                have hs0 : w.heap.size < w1.heap.size := by omega
                have hn1 : w.heap.size ≠ g := by omega
                have hn2 : w.heap.size + 1 ≠ g := by omega
                have RE3 := Asd.mk (RES.out.of_block (hblk _ hs1 hn2))
                have hG : w.grownBy w3 (some g) := gb_trans (gb_below BB.out _) (gb_trans (gb_below (by repeat (first | exact Below.refl _ _ | exact below_dn _ _ | refine Below.alloc ?_ (by simp) _)) _) hg3)
                have G3 := Asd.mk hG
                have HH := Asd.mk hh3
                have HR := Asd.mk hr3
                have FR3 := Asd.mk (Fr.mono (w := w) hfr3 (by simp; omega))
                have LT3 := Asd.mk hlt3
                clear hG hg3 hh3 hr3 hblk hfr3 hlt3
                go_wp2_with fail
                refine bodyPost_ret (v := (Res.fail 0 stamp).flat) (by simp [results, Tryz.results75, go_sem, Res.flat, Res.fail, hc1, hc3, hs0, hs1, hs3, hn1, hn2]) rfl ?_
                have hsr := writeP_sorted H.out.srt ⟨kind, key, val, stamp, 0, most⟩
                have hln := writeP_len H.out.srt H.out.big ⟨kind, key, val, stamp, 0, most⟩
                have hpw : writeP l ⟨kind, key, val, stamp, 0, most⟩ = (l.take (pos key l) ++ [⟨key, stamp, val⟩] ++ l.drop (pos key l + 1), Res.fail 0 stamp) := by have e1 : ¬ stamp ≤ r.stamp := (by omega); have e2 : ¬ (4096 : Int) < val.size := (by omega); simp [writeP, T.out, RA.out, SS.out, h1, e1, e2]
                rw [hpw] at hsr hln
                rw [← P.out, hpw]
                refine ⟨rfl, ?_, A3, c3, ?_, FR3.out⟩
                · repeat (first | exact G3.out | refine gb_set ?_ (by simp) _)
                · exact Tab.set4 ⟨HH.out, H.out.ge, HR.out, hsr, hln, LT3.out⟩ RE3.out (by decide) (by decide) (by have := H.out.ge; omega) _ _ _ _
            · have q2 : test = r.stamp := by
                apply Classical.byContradiction
                intro h
                exact h2 ⟨h4, h⟩
              subst q2
              have q1 : (r.stamp == 0) = false := by simpa using h4
              have q1' : (r.stamp != 0) = true := by simpa using h4
              go_enter Tryz.func75, Tryz.ntmps75
              go_wp2_with fail
              refine (AT.out _ (((Below.refl _ _).alloc (Nat.le_refl _) _).alloc (by simp) _)).mono ?_
              rw [T.out]
              rintro e w1 ⟨rfl, hb1⟩
              obtain ⟨hc1, hf1⟩ := bcell hb1
              have hs1 : w.heap.size + 1 < w1.heap.size := by have := hb1.size; simp at this; omega
              have hB : Below w.heap.size w w1 := (((Below.refl _ _).alloc (Nat.le_refl _) _).alloc (by simp) _).trans (hb1.mono (by simp; omega))
              have hres : IsT w1 (w.heap.size + 1) 81 := ⟨_, _, (hb1.block _ (by simp)).trans (by simpa using heap_alloc_new (w.alloc _) _)⟩
              have RES := Asd.mk hres
              clear hres
              have TB := Asd.mk (H.out.below hB)
              have hcg := TB.out.cell
              obtain ⟨b, off, rfl, hbl, hl, c0, c1, c2⟩ := TB.out.rd.row (i := pos key l) hpl
              rw [SS.out] at c0 c1 c2
              have BB := Asd.mk hB
              clear hB hb1
              go_wp2_with fail
              go_quiet (fail)
              go_wp2_with fail
              refine (splice_calls (base := base) (A := some ⟨b, off, none⟩) (c := c) (l := l) (m := [⟨key, stamp, val⟩]) ?_ (pos key l) (pos key l + 1) (by omega) (by omega) _ _ _ ?_ (by omega)).mono ?_
              · exact TB.out.below (by repeat (first | exact Below.refl _ _ | exact below_dn _ _ | refine Below.alloc ?_ (by simp) _))
              · exact Rd.new_ rfl rfl
              · rintro e w3 ⟨rfl, hg3, A3, c3, hh3, hr3, hfr3, hlt3⟩
                have hblk : ∀ b, b < w1.heap.size → b ≠ g → w3.heap[b]? = w1.heap[b]? := fun b hb hne => (hg3.block b (by simp; omega) (by simpa using hne)).trans (Below.heap_alloc _ _ _ hb)
                have hc3 : ∀ b o, b < w1.heap.size → b ≠ g → w3.cell? ⟨b, o, none⟩ = w1.cell? ⟨b, o, none⟩ := fun b o hb hne => World.cell?_of_block (w := w1) (hblk b hb hne)
                have hf3 : ∀ b o, b < w1.heap.size → b ≠ g → w3.frozen? ⟨b, o, none⟩ = w1.frozen? ⟨b, o, none⟩ := fun b o hb hne => World.frozen?_of_block (w := w1) (hblk b hb hne)
                have hs3 : w.heap.size + 1 < w3.heap.size := by have := hg3.size; simp at this; omega
                have hs0 : w.heap.size < w1.heap.size := by omega
                have hn1 : w.heap.size ≠ g := by omega
                have hn2 : w.heap.size + 1 ≠ g := by omega
                have RE3 := Asd.mk (RES.out.of_block (hblk _ hs1 hn2))
                have hG : w.grownBy w3 (some g) := gb_trans (gb_below BB.out _) (gb_trans (gb_below (by repeat (first | exact Below.refl _ _ | exact below_dn _ _ | refine Below.alloc ?_ (by simp) _)) _) hg3)
                have G3 := Asd.mk hG
                have HH := Asd.mk hh3
                have HR := Asd.mk hr3
                have FR3 := Asd.mk (Fr.mono (w := w) hfr3 (by simp; omega))
                have LT3 := Asd.mk hlt3
                clear hG hg3 hh3 hr3 hblk hfr3 hlt3
                go_wp2_with fail
                refine bodyPost_ret (v := (Res.fail 0 stamp).flat) (by simp [results, Tryz.results75, go_sem, Res.flat, Res.fail, hc1, hc3, hs0, hs1, hs3, hn1, hn2]) rfl ?_
                have hsr := writeP_sorted H.out.srt ⟨kind, key, val, stamp, r.stamp, most⟩
                have hln := writeP_len H.out.srt H.out.big ⟨kind, key, val, stamp, r.stamp, most⟩
                have hpw : writeP l ⟨kind, key, val, stamp, r.stamp, most⟩ = (l.take (pos key l) ++ [⟨key, stamp, val⟩] ++ l.drop (pos key l + 1), Res.fail 0 stamp) := by have e1 : ¬ stamp ≤ r.stamp := (by omega); have e2 : ¬ (4096 : Int) < val.size := (by omega); simp [writeP, T.out, RA.out, SS.out, h1, e1, e2]
                rw [hpw] at hsr hln
                rw [← P.out, hpw]
                refine ⟨rfl, ?_, A3, c3, ?_, FR3.out⟩
                · repeat (first | exact G3.out | refine gb_set ?_ (by simp) _)
                · exact Tab.set4 ⟨HH.out, H.out.ge, HR.out, hsr, hln, LT3.out⟩ RE3.out (by decide) (by decide) (by have := H.out.ge; omega) _ _ _ _
  | false =>
    have T := Asd.mk ht
    have hpl := pos_le key l
    have hl4 := H.out.big
    have RA := Asd.mk True.intro
    clear ht
    by_cases h2 : kind = 2
    · subst h2
      go_enter Tryz.func75, Tryz.ntmps75
      go_wp2_with fail
      refine (AT.out _ (((Below.refl _ _).alloc (Nat.le_refl _) _).alloc (by simp) _)).mono ?_
      rw [T.out]
      rintro e w1 ⟨rfl, hb1⟩
      obtain ⟨hc1, hf1⟩ := bcell hb1
      have hs1 : w.heap.size + 1 < w1.heap.size := by have := hb1.size; simp at this; omega
      have hB : Below w.heap.size w w1 := (((Below.refl _ _).alloc (Nat.le_refl _) _).alloc (by simp) _).trans (hb1.mono (by simp; omega))
      have hres : IsT w1 (w.heap.size + 1) 81 := ⟨_, _, (hb1.block _ (by simp)).trans (by simpa using heap_alloc_new (w.alloc _) _)⟩
      have RES := Asd.mk hres
      clear hres
      have TB := Asd.mk (H.out.below hB)
      have hcg := TB.out.cell
      have BB := Asd.mk hB
      clear hB hb1
      go_wp2_with fail
      go_quiet (fail)
      go_wp2_with fail
      refine (refused_calls _ _ _).mono ?_
      rintro e w2 ⟨rfl, hb2⟩
      replace hb2 : Below w1.heap.size w1 w2 := ⟨hb2.os, hb2.tape, hb2.output, hb2.size, hb2.block⟩
      obtain ⟨hc2, hf2⟩ := bcell hb2
      have hs2 : w.heap.size + 1 < w2.heap.size := by have := hb2.size; omega
      have B2 := Asd.mk hb2
      clear hb2
      go_wp2_with fail
      refine bodyPost_ret (v := (Res.fail 91 0).flat) (by simp [results, Tryz.results75, go_sem, Res.flat, Res.fail, hc1, hc2, hs1, hs2]) rfl ?_
      rw [← P.out, show writeP l _ = (l, Res.fail 91 0) from by simp [writeP, T.out, RA.out, ]]
      refine WritePost.same H.out ?_ rfl
      repeat (first | exact BB.out.trans (B2.out.mono (by omega)) | refine Below.setCell ?_ (by simp) _)
    · have k2 : (kind == 2) = false := by simpa using h2
      by_cases h3 : test = 0
      · subst h3
        by_cases h5 : (4096 : Int) < val.size
        · have h5' := h5
          go_enter Tryz.func75, Tryz.ntmps75
          go_wp2_with fail
          refine (AT.out _ (((Below.refl _ _).alloc (Nat.le_refl _) _).alloc (by simp) _)).mono ?_
          rw [T.out]
          rintro e w1 ⟨rfl, hb1⟩
          obtain ⟨hc1, hf1⟩ := bcell hb1
          have hs1 : w.heap.size + 1 < w1.heap.size := by have := hb1.size; simp at this; omega
          have hB : Below w.heap.size w w1 := (((Below.refl _ _).alloc (Nat.le_refl _) _).alloc (by simp) _).trans (hb1.mono (by simp; omega))
          have hres : IsT w1 (w.heap.size + 1) 81 := ⟨_, _, (hb1.block _ (by simp)).trans (by simpa using heap_alloc_new (w.alloc _) _)⟩
          have RES := Asd.mk hres
          clear hres
          have TB := Asd.mk (H.out.below hB)
          have hcg := TB.out.cell
          have BB := Asd.mk hB
          clear hB hb1
          go_wp2_with fail
          go_quiet (fail)
          go_wp2_with fail
          refine (refused_calls _ _ _).mono ?_
          rintro e w2 ⟨rfl, hb2⟩
          replace hb2 : Below w1.heap.size w1 w2 := ⟨hb2.os, hb2.tape, hb2.output, hb2.size, hb2.block⟩
          obtain ⟨hc2, hf2⟩ := bcell hb2
          have hs2 : w.heap.size + 1 < w2.heap.size := by have := hb2.size; omega
          have B2 := Asd.mk hb2
          clear hb2
          go_wp2_with fail
          refine bodyPost_ret (v := (Res.fail 93 0).flat) (by simp [results, Tryz.results75, go_sem, Res.flat, Res.fail, hc1, hc2, hs1, hs2]) rfl ?_
          rw [← P.out, show writeP l _ = (l, Res.fail 93 0) from by simp [writeP, T.out, RA.out, h2, h5']]
          refine WritePost.same H.out ?_ rfl
          repeat (first | exact BB.out.trans (B2.out.mono (by omega)) | refine Below.setCell ?_ (by simp) _)
        · have h5' : ¬ (4096 : Int) < val.size := h5
          have h5'' : (val.size : Int) ≤ 4096 := by omega
          clear h5
          by_cases h6 : 4096 ≤ l.length
          · have h6' : (4096 : Int) ≤ (l.length : Int) := (by omega)
            have H6 := Asd.mk h6
            clear h6 hl4
            go_enter Tryz.func75, Tryz.ntmps75
            go_wp2_with fail
            refine (AT.out _ (((Below.refl _ _).alloc (Nat.le_refl _) _).alloc (by simp) _)).mono ?_
            rw [T.out]
            rintro e w1 ⟨rfl, hb1⟩
            obtain ⟨hc1, hf1⟩ := bcell hb1
            have hs1 : w.heap.size + 1 < w1.heap.size := by have := hb1.size; simp at this; omega
            have hB : Below w.heap.size w w1 := (((Below.refl _ _).alloc (Nat.le_refl _) _).alloc (by simp) _).trans (hb1.mono (by simp; omega))
            have hres : IsT w1 (w.heap.size + 1) 81 := ⟨_, _, (hb1.block _ (by simp)).trans (by simpa using heap_alloc_new (w.alloc _) _)⟩
            have RES := Asd.mk hres
            clear hres
            have TB := Asd.mk (H.out.below hB)
            have hcg := TB.out.cell
            have BB := Asd.mk hB
            clear hB hb1
            go_wp2_with fail
            go_quiet (fail)
            go_wp2_with fail
            refine (refused_calls _ _ _).mono ?_
            rintro e w2 ⟨rfl, hb2⟩
            replace hb2 : Below w1.heap.size w1 w2 := ⟨hb2.os, hb2.tape, hb2.output, hb2.size, hb2.block⟩
            obtain ⟨hc2, hf2⟩ := bcell hb2
            have hs2 : w.heap.size + 1 < w2.heap.size := by have := hb2.size; omega
            have B2 := Asd.mk hb2
            clear hb2
            go_wp2_with fail
            refine bodyPost_ret (v := (Res.fail 22 0).flat) (by simp [results, Tryz.results75, go_sem, Res.flat, Res.fail, hc1, hc2, hs1, hs2]) rfl ?_
            rw [← P.out, show writeP l _ = (l, Res.fail 22 0) from by have e2 : ¬ (4096 : Int) < val.size := (by omega); simp [writeP, T.out, RA.out, h2, e2, H6.out]]
            refine WritePost.same H.out ?_ rfl
            repeat (first | exact BB.out.trans (B2.out.mono (by omega)) | refine Below.setCell ?_ (by simp) _)
          · have h6' : (l.length : Int) < 4096 := (by omega)
            have H6 := Asd.mk h6
            clear h6 hl4
            go_enter Tryz.func75, Tryz.ntmps75
            go_wp2_with fail
            refine (AT.out _ (((Below.refl _ _).alloc (Nat.le_refl _) _).alloc (by simp) _)).mono ?_
            rw [T.out]
            rintro e w1 ⟨rfl, hb1⟩
            obtain ⟨hc1, hf1⟩ := bcell hb1
            have hs1 : w.heap.size + 1 < w1.heap.size := by have := hb1.size; simp at this; omega
            have hB : Below w.heap.size w w1 := (((Below.refl _ _).alloc (Nat.le_refl _) _).alloc (by simp) _).trans (hb1.mono (by simp; omega))
            have hres : IsT w1 (w.heap.size + 1) 81 := ⟨_, _, (hb1.block _ (by simp)).trans (by simpa using heap_alloc_new (w.alloc _) _)⟩
            have RES := Asd.mk hres
            clear hres
            have TB := Asd.mk (H.out.below hB)
            have hcg := TB.out.cell
            have BB := Asd.mk hB
            clear hB hb1
            go_wp2_with fail
            go_quiet (fail)
            go_wp2_with fail
            refine (splice_calls (base := base) (A := A) (c := c) (l := l) (m := [⟨key, stamp, val⟩]) ?_ (pos key l) (pos key l) (by omega) (by omega) _ _ _ ?_ (by omega)).mono ?_
            · exact TB.out.below (by repeat (first | exact Below.refl _ _ | exact below_dn _ _ | refine Below.alloc ?_ (by simp) _))
            · exact Rd.new_ rfl rfl
            · rintro e w3 ⟨rfl, hg3, A3, c3, hh3, hr3, hfr3, hlt3⟩
              have hblk : ∀ b, b < w1.heap.size → b ≠ g → w3.heap[b]? = w1.heap[b]? := fun b hb hne => (hg3.block b (by simp; omega) (by simpa using hne)).trans (Below.heap_alloc _ _ _ hb)
              have hc3 : ∀ b o, b < w1.heap.size → b ≠ g → w3.cell? ⟨b, o, none⟩ = w1.cell? ⟨b, o, none⟩ := fun b o hb hne => World.cell?_of_block (w := w1) (hblk b hb hne)
              have hf3 : ∀ b o, b < w1.heap.size → b ≠ g → w3.frozen? ⟨b, o, none⟩ = w1.frozen? ⟨b, o, none⟩ := fun b o hb hne => World.frozen?_of_block (w := w1) (hblk b hb hne)
              have hs3 : w.heap.size + 1 < w3.heap.size := by have := hg3.size; simp at this; omega
              have hs0 : w.heap.size < w1.heap.size := by omega
              have hn1 : w.heap.size ≠ g := by omega
              have hn2 : w.heap.size + 1 ≠ g := by omega
              have RE3 := Asd.mk (RES.out.of_block (hblk _ hs1 hn2))
              have hG : w.grownBy w3 (some g) := gb_trans (gb_below BB.out _) (gb_trans (gb_below (by repeat (first | exact Below.refl _ _ | exact below_dn _ _ | refine Below.alloc ?_ (by simp) _)) _) hg3)
              have G3 := Asd.mk hG
              have HH := Asd.mk hh3
              have HR := Asd.mk hr3
              have FR3 := Asd.mk (Fr.mono (w := w) hfr3 (by simp; omega))
              have LT3 := Asd.mk hlt3
              clear hG hg3 hh3 hr3 hblk hfr3 hlt3
              go_wp2_with fail
              refine bodyPost_ret (v := (Res.fail 0 stamp).flat) (by simp [results, Tryz.results75, go_sem, Res.flat, Res.fail, hc1, hc3, hs0, hs1, hs3, hn1, hn2]) rfl ?_
              have hsr := writeP_sorted H.out.srt ⟨kind, key, val, stamp, 0, most⟩
              have hln := writeP_len H.out.srt H.out.big ⟨kind, key, val, stamp, 0, most⟩
              have hpw : writeP l ⟨kind, key, val, stamp, 0, most⟩ = (l.take (pos key l) ++ [⟨key, stamp, val⟩] ++ l.drop (pos key l), Res.fail 0 stamp) := by have e2 : ¬ (4096 : Int) < val.size := (by omega); simp [writeP, T.out, h2, e2, H6.out]
              rw [hpw] at hsr hln
              rw [← P.out, hpw]
              refine ⟨rfl, ?_, A3, c3, ?_, FR3.out⟩
              · repeat (first | exact G3.out | refine gb_set ?_ (by simp) _)
              · exact Tab.set4 ⟨HH.out, H.out.ge, HR.out, hsr, hln, LT3.out⟩ RE3.out (by decide) (by decide) (by have := H.out.ge; omega) _ _ _ _
      · have q1 : (test == 0) = false := by simpa using h3
        have q1' : (test != 0) = true := by simpa using h3
        go_enter Tryz.func75, Tryz.ntmps75
        go_wp2_with fail
        refine (AT.out _ (((Below.refl _ _).alloc (Nat.le_refl _) _).alloc (by simp) _)).mono ?_
        rw [T.out]
        rintro e w1 ⟨rfl, hb1⟩
        obtain ⟨hc1, hf1⟩ := bcell hb1
        have hs1 : w.heap.size + 1 < w1.heap.size := by have := hb1.size; simp at this; omega
        have hB : Below w.heap.size w w1 := (((Below.refl _ _).alloc (Nat.le_refl _) _).alloc (by simp) _).trans (hb1.mono (by simp; omega))
        have hres : IsT w1 (w.heap.size + 1) 81 := ⟨_, _, (hb1.block _ (by simp)).trans (by simpa using heap_alloc_new (w.alloc _) _)⟩
        have RES := Asd.mk hres
        clear hres
        have TB := Asd.mk (H.out.below hB)
        have hcg := TB.out.cell
        have BB := Asd.mk hB
        clear hB hb1
        go_wp2_with fail
        go_quiet (fail)
        go_wp2_with fail
        refine (refused_calls _ _ _).mono ?_
        rintro e w2 ⟨rfl, hb2⟩
        replace hb2 : Below w1.heap.size w1 w2 := ⟨hb2.os, hb2.tape, hb2.output, hb2.size, hb2.block⟩
        obtain ⟨hc2, hf2⟩ := bcell hb2
        have hs2 : w.heap.size + 1 < w2.heap.size := by have := hb2.size; omega
        have B2 := Asd.mk hb2
        clear hb2
        go_wp2_with fail
        refine bodyPost_ret (v := (Res.fail 91 0).flat) (by simp [results, Tryz.results75, go_sem, Res.flat, Res.fail, hc1, hc2, hs1, hs2]) rfl ?_
        rw [← P.out, show writeP l _ = (l, Res.fail 91 0) from by simp [writeP, T.out, RA.out, h2, h3]]
        refine WritePost.same H.out ?_ rfl
        repeat (first | exact BB.out.trans (B2.out.mono (by omega)) | refine Below.setCell ?_ (by simp) _)
end Go.Proofs.YtallnibjmffahaaGreatDoor

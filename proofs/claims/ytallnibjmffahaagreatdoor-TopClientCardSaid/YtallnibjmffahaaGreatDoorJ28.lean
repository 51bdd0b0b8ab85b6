/- serve. -/
import Derived.Test.YtallnibjmffahaaGreatDoorJ27
import Derived.Test.YtallnibjmffahaaGreatDoorJ20
import Derived.Test.YtallnibjmffahaaGreatDoorJ21
set_option linter.unusedVariables false
set_option linter.unusedSimpArgs false
namespace Go.Proofs.YtallnibjmffahaaGreatDoor
open Go.RowKit

/-- What the server answers. -/
def ansB (sq at_ code : Int) (rs : List ResS) : ByteArray := if (rencP 7 sq at_ code rs).2 = 0 then (encP [intF 1, txtF (rencP 7 sq at_ code rs).1]).1 else ⟨#[]⟩
structure SvN (base bb mb tg depth : Nat) (A : Option Addr) (reps : List RepR) (rows : List Rw) (ops : List OpR) (sq at_ code : Int) (rs : List ResS) (w wc : World) : Prop where
  miss : ∀ r ∈ reps, r.sq ≠ sq
  last : lastP reps < sq
  eat : at_ = (doP rows ops).at_
  ecode : code = (doP rows ops).code
  ers : rs = (doP rows ops).res.map toS
  chg : Chg (fun b => NoteP mb A b ∨ b = tg) w wc
  book : ∃ A' n' c' q, BookAt base wc bb mb depth A' n' c' ((reps ++ [q]).drop (reps.length + 1 - depth)) ∧ n' ≤ depth ∧ q.sq = sq ∧ q.at_ = at_ ∧ q.code = code ∧ q.rs = rs
  tab : ∃ tA tc, Tab base wc tg (doP rows ops).rows tA tc
def SvM (base bb mb tg depth : Nat) (A : Option Addr) (reps : List RepR) (rows : List Rw) (ops : List OpR) (sq d at_ code : Int) (rs : List ResS) (w wc : World) : Prop :=
  (d = 0 ∧ (∃ r ∈ reps, r.sq = sq ∧ r.at_ = at_ ∧ r.code = code ∧ r.rs = rs) ∧ Below w.heap.size w wc) ∨ (d = sq ∧ SvN base bb mb tg depth A reps rows ops sq at_ code rs w wc)
theorem SvN.next {base bb mb tg depth : Nat} {A : Option Addr} {reps : List RepR} {rows : List Rw} {ops : List OpR} {sq at_ code : Int} {rs : List ResS} {w wc w' : World} (h : SvN base bb mb tg depth A reps rows ops sq at_ code rs w wc) (hb : Below wc.heap.size wc w') : SvN base bb mb tg depth A reps rows ops sq at_ code rs w w' := by
  obtain ⟨A', n', c', q, b1, b2⟩ := h.book
  obtain ⟨tA, tc, ht⟩ := h.tab
  exact ⟨h.miss, h.last, h.eat, h.ecode, h.ers, h.chg.trans (Chg.of_below hb), ⟨A', n', c', q, b1.below hb, b2⟩, ⟨tA, tc, ht.below hb⟩⟩
theorem SvM.next {base bb mb tg depth : Nat} {A : Option Addr} {reps : List RepR} {rows : List Rw} {ops : List OpR} {sq d at_ code : Int} {rs : List ResS} {w wc w' : World} (h : SvM base bb mb tg depth A reps rows ops sq d at_ code rs w wc) (hb : Below wc.heap.size wc w') : SvM base bb mb tg depth A reps rows ops sq d at_ code rs w w' :=
  h.imp (fun ⟨a, b, c⟩ => ⟨a, b, c.trans (hb.mono c.size)⟩) (fun ⟨a, b⟩ => ⟨a, b.next hb⟩)
def ServePost (base bb mb tg depth : Nat) (A : Option Addr) (reps : List RepR) (rows : List Rw) (ops : List OpR) (sq : Int) (w : World) (e : Ending) (w' : World) : Prop :=
  (e = .returned (.tuple #[.string ⟨#[]⟩, .int .i64 0, .bool true]) ∧ Below w.heap.size w w') ∨
  (∃ d at_ code rs, e = .returned (.tuple #[.string (ansB sq at_ code rs), .int .i64 d, .bool true]) ∧ SvM base bb mb tg depth A reps rows ops sq d at_ code rs w w')
theorem BookAt.gbt {base bb mb depth n c tg : Nat} {w w' : World} {A : Option Addr} {reps : List RepR} {cs : Array Value} {fr : Nat × Nat} (h : BookAt base w bb mb depth A n c reps) (hg : w.grownBy w' (some tg)) (ht : w.heap[tg]? = some (.cells cs 77 fr)) (hge : base ≤ tg) : BookAt base w' bb mb depth A n c reps := by
  refine ⟨(hg.block _ (Array.getElem?_eq_some_iff.1 h.blk).1 (fun e => ?_)).trans h.blk, h.map.keep (hg.block _ h.map.lt (fun e => ?_)), h.mid.gb hg ht (by decide) hge, fun r hr => ⟨(h.ins r hr).1.keepR fun qs hq => hq.grown hg ht (by decide) hge, (h.ins r hr).2⟩⟩
  · injection e with e
    rw [← e, h.blk] at ht
    injection ht with ht
    injection ht with _ ht
    exact absurd ht (by decide)
  · injection e with e
    obtain ⟨es, clock, hm, _⟩ := h.map
    rw [← e, hm] at ht
    injection ht with ht
    cases ht
theorem Tab.note {base mb tg n c tc n2 c2 : Nat} {w w' : World} {A tA A2 : Option Addr} {xs : List Value} {rows : List Rw} (h : Tab base w tg rows tA tc) (hc : Chg (NoteP mb A) w w') (hm : BMap w mb A2 n2 c2) (hmb : base ≤ mb) (hd : Mid base 51 w 5 A n c xs) : Tab base w' tg rows tA tc := by
  have hP : ∀ b, b < w.heap.size → ∀ T cs fr, T ≠ 51 → w.heap[b]? = some (.cells cs T fr) → ¬ NoteP mb A b := by
    rintro b hb T cs fr hT hh (rfl | ⟨a, rfl, rfl⟩)
    · obtain ⟨es, clock, hm, _⟩ := hm
      rw [hm] at hh
      injection hh with hh
      cases hh
    · rcases hd.row with e | ⟨g, off, cur, e, _, hg, _⟩
      · cases e
      · injection e with e
        subst e
        rw [hg] at hh
        injection hh with hh
        injection hh with _ hh
        exact hT hh.symm
  refine ⟨(hc.block _ h.lt (hP _ h.lt _ _ _ (by decide) h.blk)).trans h.blk, h.ge, h.rd.keep hc.size (fun b hs => hc.block b hs.lt ?_), h.srt, h.big, fun a ha => Nat.lt_of_lt_of_le (h.old a ha) hc.size⟩
  rcases hs.2 with hb | ⟨cs, fr, hh⟩
  · rintro (rfl | ⟨a, rfl, rfl⟩)
    · omega
    · rcases hd.row with e | ⟨g, off, cur, e, hge, hg, _⟩
      · cases e
      · injection e with e
        subst e
        simp only at hb
        omega
  · exact hP b hs.lt _ _ _ (by decide) hh

theorem stay_note {base T mb n c n2 c2 : Nat} {w : World} {A A2 : Option Addr} {xs : List Value} {b : Nat} (hs : Stay base T w b) (hT : T ≠ 51) (hm : BMap w mb A2 n2 c2) (hmb : base ≤ mb) (hd : Mid base 51 w 5 A n c xs) : ¬ NoteP mb A b := by
  rintro (rfl | ⟨a, rfl, rfl⟩)
  · exact stay_map hs hm hmb rfl
  · rcases hd.row with e | ⟨g, off, cur, e, hge, hg, _⟩
    · cases e
    · injection e with e
      subst e
      exact hs.ne hg (fun e => hT e.symm) hge rfl
theorem Rd.note {base T k n c mb n1 c1 n2 c2 : Nat} {w w' : World} {A A1 A2 : Option Addr} {xs ys : List Value} (h : Rd base T w k A1 n1 c1 ys) (hT : T ≠ 51) (hc : Chg (NoteP mb A) w w') (hm : BMap w mb A2 n2 c2) (hmb : base ≤ mb) (hd : Mid base 51 w 5 A n c xs) : Rd base T w' k A1 n1 c1 ys :=
  h.keep hc.size fun b hs => hc.block b hs.lt (stay_note hs hT hm hmb hd)
theorem cells5 {w : World} {b : Nat} {a0 a1 a2 a3 a4 : Value} {T : TypeId} {fr : Nat × Nat} (h : w.heap[b]? = some (.cells #[a0, a1, a2, a3, a4] T fr)) (u0 u1 u2 u3 u4 : Value) : (((((w.setCell ⟨b, 0, none⟩ u0).setCell ⟨b, 1, none⟩ u1).setCell ⟨b, 2, none⟩ u2).setCell ⟨b, 3, none⟩ u3).setCell ⟨b, 4, none⟩ u4).heap[b]? = some (.cells #[u0, u1, u2, u3, u4] T fr) := by
  simp only [World.setCell, Array.getElem?_modify, h, if_true, Option.map_some]
  rfl
theorem gb5 (w : World) (b : Nat) (u0 u1 u2 u3 u4 : Value) : w.grownBy (((((w.setCell ⟨b, 0, none⟩ u0).setCell ⟨b, 1, none⟩ u1).setCell ⟨b, 2, none⟩ u2).setCell ⟨b, 3, none⟩ u3).setCell ⟨b, 4, none⟩ u4) (some b) :=
  gb_at (gb_at (gb_at (gb_at (gb_at (gb_refl w (some b)) 0 u0) 1 u1) 2 u2) 3 u3) 4 u4
theorem gb_new {w w1 w' : World} {r : Option Nat} {b : Nat} (h : w.grownBy w1 r) (k : w1.grownBy w' (some b)) (hb : w.heap.size ≤ b) : w.grownBy w' r :=
  ⟨k.os.trans h.os, k.tape.trans h.tape, k.output.trans h.output, Nat.le_trans h.size k.size, fun i hi hne => (k.block i (Nat.lt_of_lt_of_le hi h.size) (fun e => by injection e with e; omega)).trans (h.block i hi hne)⟩
theorem rms_qs {base B : Nat} {w : World} : ∀ (rr : List RRes) (rs : List Res), All2 (RMatch base B w) rr rs → (∀ r ∈ rs, r.rows = []) → ∃ qs : List ResW, rwCells qs = resCells rr ∧ qs.map ResW.r = rs.map toS ∧ ∀ q ∈ qs, NilOk q
  | [], [], _, _ => ⟨[], rfl, rfl, fun q hq => by simp at hq⟩
  | q :: rr, r :: rs, h, hz => by
    obtain ⟨qs, h1, h2, h3⟩ := rms_qs rr rs h.2 (fun x hx => hz x (by simp [hx]))
    have hm := h.1
    have hr := hz r (by simp)
    have hn : q.n = 0 := by
      have := hm.rd.len
      rw [hr] at this
      unfold rowCells at this
      simp at this
      omega
    refine ⟨⟨⟨q.code, q.stamp, q.val⟩, q.A, q.c⟩ :: qs, ?_, ?_, ?_⟩
    · unfold rwCells resCells at h1 ⊢
      rw [List.flatMap_cons, List.flatMap_cons, h1]
      congr 1
      unfold ResW.enc RRes.enc
      rw [hn]
    · rw [List.map_cons, List.map_cons, h2, hm.code, hm.stamp, hm.val]
      rfl
    · intro p hp
      rcases List.mem_cons.1 hp with rfl | hp
      · exact fun e => hm.rd.nil e
      · exact h3 p hp
  | [], _ :: _, h, _ => h.elim
  | _ :: _, [], h, _ => h.elim
theorem rms_rs {base B b n c : Nat} {w : World} {A : Option Addr} {rr : List RRes} {rs : List Res} (hO : w.ownsRow b 81 4 (.slice A n c) n (resCells rr)) (hR : RMs base B w rr rs) (hz : ∀ r ∈ rs, r.rows = []) : RsAt base w A n c (rs.map toS) := by
  obtain ⟨qs, h1, h2, h3⟩ := rms_qs rr rs hR hz
  obtain ⟨A', c', e, hrd⟩ := Rd.of_own (base := base) hO
  injection e with e1 _ e2
  subst e1 e2
  exact ⟨qs, by rw [h1]; exact hrd, h2, h3⟩
set_option maxHeartbeats 800000 in
set_option maxRecDepth 100000 in
theorem serve_calls {base bb mb tg depth n c tc : Nat} {w : World} {A tA : Option Addr} {reps : List RepR} {rows : List Rw} {letter body : ByteArray} {sq : Int} {ops : List OpR} (hB : BookAt base w bb mb depth A n c reps) (hT : Tab base w tg rows tA tc) (hn : n ≤ depth) (hbs : base ≤ w.heap.size) (hbb : base ≤ bb) (hmb : base ≤ mb) (hd1 : 1 ≤ depth) (hd2 : depth ≤ 64)
    (hl : decP letter = ⟨[intF 1, txtF body], 0, 0⟩) (ho : odecP body = ⟨7, sq, ops, 0⟩) (hok : reqOk 7 sq ops = true) (hmy : ops.any isMany = false) (hrow : RowsOk rows) (hreps : ∀ r ∈ reps, replyOk 7 r.sq r.at_ r.code r.rs = true) :
    Calls Tryz.prog 12 #[.pointer (some ⟨bb, 0, none⟩), .pointer (some ⟨tg, 0, none⟩), .string letter] w (ServePost base bb mb tg depth A reps rows ops sq w) := by
  have DB : Asd (Calls Tryz.prog 27 #[.string letter] w (fun e w' => ∃ A n c, e = .returned (.tuple #[.slice A n c, .agg #[.int .i64 0, .int .i64 0]]) ∧ w'.ownsRow w.heap.size 94 3 (.slice A n c) n (fieldCells [intF 1, txtF body]) ∧ Below w.heap.size w w')) := ⟨by
    have h := Decode_calls letter w
    rw [hl] at h
    exact h⟩
  have OD : Asd (∀ W, Calls Tryz.prog 32 #[.string body] W (fun e w' => ∃ A n c, e = .returned (.tuple #[.agg #[.int .i64 7, .int .i64 sq, .slice A n c], .int .i64 0]) ∧ w'.ownsRow W.heap.size 79 6 (.slice A n c) n (opCells ops) ∧ Below W.heap.size W w')) := ⟨fun W => by
    have h := OpDecode_calls body W
    rw [ho] at h
    exact h⟩
  have HQ := Asd.mk (reqOk_parts hok)
  have HOK := Asd.mk hok
  have H := Asd.mk (And.intro hB (And.intro hT (And.intro hrow hreps)))
  have HB := Asd.mk (And.intro hbs (And.intro hbb hmb))
  have HD := Asd.mk (And.intro hd1 (And.intro hd2 hn))
  have HM := Asd.mk hmy
  clear hl ho hok hB hT hrow hreps hbs hbb hmb hd1 hd2 hn hmy
  go_enter Tryz.func12, Tryz.ntmps12
  go_wp2_with fail
  refine DB.out.mono ?_
  rintro e w2 ⟨A2, n2, c2, rfl, hO, hb2⟩
  obtain ⟨A', c', e', hR⟩ := Rd.of_own (base := base) hO
  injection e' with e1 _ e2
  subst e1 e2
  obtain rfl : n2 = 2 := (hR.count (enc := FieldR.enc) (fun _ => rfl) (by omega)).symm
  obtain ⟨fb, off, rfl, hfl, hil1, hcs1⟩ := hR.at_enc (enc := FieldR.enc) (i := 1) (fun _ => rfl) (by omega) (by omega)
  have d5 : w2.cell? ⟨fb, off + 1 * 3 + 2, none⟩ = some (.string body) := hcs1 2 _ rfl
  simp only [Nat.one_mul] at d5
  have hcap := hR.cap
  have B2 := Asd.mk hb2
  clear hcs1 hO hb2 hR DB hil1
  go_wp2_with fail
  refine (OD.out _).mono ?_
  rintro e w3 ⟨A3, n3, c3, rfl, hO3, hb3⟩
  obtain ⟨A3', c3', e', hR3⟩ := Rd.of_own (base := base) hO3
  injection e' with e1 _ e2
  subst e1 e2
  have B3' := B2.out.trans (((Below.refl w2.heap.size w2).alloc (Nat.le_refl _) (.cells #[.int .i64 0, .int .i64 0] 49) |>.trans (hb3.mono (by simp))).mono B2.out.size)
  have al := (Below.refl w3.heap.size w3).alloc (Nat.le_refl _) (.cells #[.int .i64 7, .int .i64 sq, .slice A3 n3 c3] 46)
  have B4 := Asd.mk (B3'.trans (al.mono B3'.size))
  have R4 := Asd.mk (hR3.below al)
  have N4 := Asd.mk (heap_alloc_new w3 (.cells #[.int .i64 7, .int .i64 sq, .slice A3 n3 c3] 46))
  have HW3 : Asd (w.heap.size ≤ w3.heap.size) := ⟨B3'.size⟩
  clear hO3 hb3 hR3 B3' al OD d5 hcap hfl
  go_upto_region 7 with fail
  generalize w3.alloc (.cells #[.int .i64 7, .int .i64 sq, .slice A3 n3 c3] 46) = w4 at B4 R4 N4 ⊢
  have r0 : w4.cell? ⟨w3.heap.size, 0, none⟩ = some (.int .i64 7) := (cell_of_row _ _ 0 _ _ _ N4.out).trans rfl
  have r1 : w4.cell? ⟨w3.heap.size, 1, none⟩ = some (.int .i64 sq) := (cell_of_row _ _ 1 _ _ _ N4.out).trans rfl
  have hl4 : w3.heap.size < w4.heap.size := (Array.getElem?_eq_some_iff.1 N4.out).1
  have BA := Asd.mk (BAsk_calls (H.out.1.below B4.out) (by have := HD.out; omega) (Nat.le_trans HB.out.1 B4.out.size) sq (by have := HQ.out; omega) (by have := HQ.out; omega))
  go_cut [12, 13, 14] from 41 to 50 (fun s12 s13 s14 wc => ∃ (ec : Int) (nt : Bool) (pb : Nat) (cl sq' at_ code : Int) (rA : Option Addr) (rn rc : Nat), s12 = .int .i64 ec ∧ s13 = .pointer (some ⟨pb, 0, none⟩) ∧ s14 = .bool nt ∧ Asd (Below w4.heap.size w4 wc) ∧ Asd (w.heap.size ≤ pb) ∧ Asd (wc.heap[pb]? = some (.cells #[.int .i64 cl, .int .i64 sq', .slice rA rn rc, .int .i64 at_, .int .i64 code] 51 (0, 0))) ∧
    Asd ((nt = true ∧ ec = 0 ∧ ∃ r ∈ reps, r.sq = sq ∧ cl = 7 ∧ sq' = sq ∧ at_ = r.at_ ∧ code = r.code ∧ RsAt base wc rA rn rc r.rs) ∨ (nt = false ∧ ec = 230) ∨ (nt = false ∧ ec = 0 ∧ (∀ r ∈ reps, r.sq ≠ sq) ∧ lastP reps < sq)))
  case first =>
    go_wp2_with fail
    refine BA.out.mono ?_
    rintro e w5 ⟨hb5, ⟨r, hr, hrs, A5, n5, c5, rfl, hR5⟩ | ⟨hmiss, ec, rfl, ⟨hle, rfl⟩ | ⟨hgt, rfl⟩⟩⟩
    · have B5 := Asd.mk hb5
      have X : Asd (r ∈ reps ∧ r.sq = sq ∧ RsAt base w5 A5 n5 c5 r.rs) := ⟨⟨hr, hrs, hR5⟩⟩
      clear hb5 hr hrs hR5 BA r0 r1
      go_wp2_with fail
      go_meet
      case rel => exact ⟨0, true, w5.heap.size, 7, sq, r.at_, r.code, A5, n5, c5, rfl, rfl, rfl, ⟨B5.out.alloc B5.out.size _⟩, ⟨Nat.le_trans B4.out.size B5.out.size⟩, ⟨heap_alloc_new w5 _⟩, ⟨.inl ⟨rfl, rfl, r, X.out.1, X.out.2.1, rfl, rfl, rfl, rfl, X.out.2.2.below ((Below.refl _ _).alloc (Nat.le_refl _) _)⟩⟩⟩
    · have B5 := Asd.mk hb5
      clear hb5 hmiss hle BA r0 r1
      go_wp2_with fail
      go_meet
      case rel => exact ⟨230, false, w5.heap.size, 0, 0, 0, 0, none, 0, 0, rfl, rfl, rfl, ⟨B5.out.alloc B5.out.size _⟩, ⟨Nat.le_trans B4.out.size B5.out.size⟩, ⟨heap_alloc_new w5 _⟩, ⟨.inr (.inl ⟨rfl, rfl⟩)⟩⟩
    · have B5 := Asd.mk hb5
      have X : Asd ((∀ r ∈ reps, r.sq ≠ sq) ∧ lastP reps < sq) := ⟨⟨hmiss, hgt⟩⟩
      clear hb5 hmiss hgt BA r0 r1
      go_wp2_with fail
      go_meet
      case rel => exact ⟨0, false, w5.heap.size, 0, 0, 0, 0, none, 0, 0, rfl, rfl, rfl, ⟨B5.out.alloc B5.out.size _⟩, ⟨Nat.le_trans B4.out.size B5.out.size⟩, ⟨heap_alloc_new w5 _⟩, ⟨.inr (.inr ⟨rfl, rfl, X.out.1, X.out.2⟩)⟩⟩
  case rest =>
    obtain ⟨ec, nt, pb, cl, sq', at_, code, rA, rn, rc, rfl, rfl, rfl, BC, PB, PC, XC⟩ := hcut
    clear BA
    have N5 := Asd.mk ((BC.out.block _ hl4).trans N4.out)
    have B5 := Asd.mk (B4.out.trans (BC.out.mono B4.out.size))
    have R5 := Asd.mk (R4.out.below BC.out)
    clear N4 R4 BC B4 r0 r1 hl4
    by_cases hec : ec = 230
    · subst hec
      go_wp2_with fail
      go_ret3
      exact .inl ⟨rfl, B5.out⟩
    · have XC2 : Asd (ec = 0) := ⟨by rcases XC.out with h | h | h <;> omega⟩
      obtain rfl := XC2.out
      clear XC2 hec
      go_upto_if 54 with fail
      go_cut [7, 15, 16] from 55 to 74 (fun s7 s15 s16 wd => ∃ (d at' code' : Int) (rA' : Option Addr) (rn' rc' : Nat) (rs : List ResS), s7 = .int .i64 d ∧ Asd (SvM base bb mb tg depth A reps rows ops sq d at' code' rs w wd) ∧ Asd (wd.heap[pb]? = some (.cells #[.int .i64 7, .int .i64 sq, .slice rA' rn' rc', .int .i64 at', .int .i64 code'] 51 (0, 0))) ∧ Asd (RsAt base wd rA' rn' rc' rs) ∧ Asd (rn' ≤ 1000) ∧ Asd (replyOk 7 sq at' code' rs = true) ∧ Asd (base ≤ wd.heap.size))
      case first =>
        cases nt with
        | true =>
          go_wp2_with fail
          go_meet
          case rel =>
            rcases XC.out with ⟨_, _, r, hr, hrs, rfl, rfl, rfl, rfl, hR⟩ | ⟨h, _⟩ | ⟨h, _⟩
            · have hk := H.out.2.2.2 r hr
              have hbk := H.out.1.ins r hr
              have hl1 := hR.len
              have hl2 := hbk.1.len
              rw [hrs] at hk
              exact ⟨0, r.at_, r.code, rA, rn, rc, r.rs, rfl, ⟨.inl ⟨rfl, ⟨r, hr, hrs, rfl, rfl, rfl⟩, B5.out⟩⟩, PC, ⟨hR⟩, ⟨by omega⟩, ⟨hk⟩, ⟨Nat.le_trans HB.out.1 B5.out.size⟩⟩
            · cases h
            · cases h
        | false =>
          have XM : Asd ((∀ r ∈ reps, r.sq ≠ sq) ∧ lastP reps < sq) := ⟨by
            rcases XC.out with ⟨h, _⟩ | ⟨_, h⟩ | ⟨_, _, h⟩
            · cases h
            · omega
            · exact h⟩
          have q2 : wc.cell? ⟨w3.heap.size, 2, none⟩ = some (.slice A3 n3 c3) := (cell_of_row _ _ 2 _ _ _ N5.out).trans rfl
          have hl5 : w3.heap.size < wc.heap.size := (Array.getElem?_eq_some_iff.1 N5.out).1
          have DO' := Do_calls2 (H.out.2.1.below B5.out) ops A3 n3 c3 R5.out (fun x hx => by
            have h := opOk_good (HQ.out.2.2.2 x hx)
            exact ⟨by omega, by omega⟩)
          have NR' := doP_norows (l := rows) HM.out
          have RK' := doP_reply (sq := sq) H.out.2.1.srt H.out.2.2.1 HOK.out
          obtain ⟨⟨drows, dres, da, dc⟩, hdd⟩ : ∃ dd : DoR, doP rows ops = dd := ⟨_, rfl⟩
          rw [hdd] at DO' NR' RK'
          unfold DoPost2 at DO'
          simp only at DO' NR' RK'
          have DO := Asd.mk DO'
          have NR := Asd.mk NR'
          have RO6 := Asd.mk RK'
          have DD := Asd.mk hdd
          clear XC DO' NR' RK' hdd
          go_wp2_with fail
          refine DO.out.mono ?_
          rintro e w6 ⟨A6, n6, c6, rr, rfl, hg6, ⟨tA6, tc6, ht6, _, _⟩, hO6, hR6⟩
          have RS6 := Asd.mk (rms_rs hO6 hR6 NR.out)
          have RL6 : Asd (n6 ≤ 1000) := ⟨by
            have h1 := RS6.out.len
            have h2 := (replyOk_parts RO6.out).2.2.2.2.1
            omega⟩
          have TB := Asd.mk ((H.out.2.1.below B5.out).blk)
          have hnt : ∀ b cs T fr, T ≠ 77 → wc.heap[b]? = some (.cells cs T fr) → some b ≠ some tg := by
            intro b cs T fr hT hb e
            injection e with e
            rw [e, TB.out] at hb
            injection hb with hb
            injection hb with _ hb
            exact hT hb.symm
          have P6 := Asd.mk ((hg6.block _ (Array.getElem?_eq_some_iff.1 PC.out).1 (hnt _ _ _ _ (by decide) PC.out)).trans PC.out)
          have N6 := Asd.mk ((hg6.block _ (Array.getElem?_eq_some_iff.1 N5.out).1 (hnt _ _ _ _ (by decide) N5.out)).trans N5.out)
          have G6 := Asd.mk (gb_trans (gb_below B5.out (some tg)) hg6)
          have T6 := Asd.mk ht6
          have u0 : w6.cell? ⟨w3.heap.size, 0, none⟩ = some (.int .i64 7) := (cell_of_row _ _ 0 _ _ _ N6.out).trans rfl
          have u1 : w6.cell? ⟨w3.heap.size, 1, none⟩ = some (.int .i64 sq) := (cell_of_row _ _ 1 _ _ _ N6.out).trans rfl
          have p0 : w6.cell? ⟨pb, 0, none⟩ = some (.int .i64 cl) := (cell_of_row _ _ 0 _ _ _ P6.out).trans rfl
          have p1 : w6.cell? ⟨pb, 1, none⟩ = some (.int .i64 sq') := (cell_of_row _ _ 1 _ _ _ P6.out).trans rfl
          have p2 : w6.cell? ⟨pb, 2, none⟩ = some (.slice rA rn rc) := (cell_of_row _ _ 2 _ _ _ P6.out).trans rfl
          have p3 : w6.cell? ⟨pb, 3, none⟩ = some (.int .i64 at_) := (cell_of_row _ _ 3 _ _ _ P6.out).trans rfl
          have p4 : w6.cell? ⟨pb, 4, none⟩ = some (.int .i64 code) := (cell_of_row _ _ 4 _ _ _ P6.out).trans rfl
          have pf : ∀ i, w6.frozen? ⟨pb, i, none⟩ = false := fun i => by simp [World.frozen?, P6.out]
          have pl : pb < w6.heap.size := (Array.getElem?_eq_some_iff.1 P6.out).1
          have ul : w3.heap.size < w6.heap.size := (Array.getElem?_eq_some_iff.1 N6.out).1
          clear hO6 hR6 hg6 ht6 hnt q2 hl5 DO
          go_upto_region 12 with fail
          have al7 := (Below.refl w6.heap.size w6).alloc (Nat.le_refl _) (.cells #[.int .i64 da, .int .i64 dc] 49)
          have A7 := Asd.mk al7
          have P7 := Asd.mk ((al7.block _ pl).trans P6.out)
          have N7 := Asd.mk ((al7.block _ ul).trans N6.out)
          have F7 := heap_alloc_new w6 (.cells #[.int .i64 da, .int .i64 dc] 49)
          have hz7 : w6.heap.size < (w6.alloc (.cells #[.int .i64 da, .int .i64 dc] 49)).heap.size := by simp
          clear u0 u1 p0 p1 p2 p3 p4 pf pl ul al7
          generalize w6.alloc (.cells #[.int .i64 da, .int .i64 dc] 49) = w7 at A7 P7 N7 F7 hz7 ⊢
          have u0 : w7.cell? ⟨w3.heap.size, 0, none⟩ = some (.int .i64 7) := (cell_of_row _ _ 0 _ _ _ N7.out).trans rfl
          have u1 : w7.cell? ⟨w3.heap.size, 1, none⟩ = some (.int .i64 sq) := (cell_of_row _ _ 1 _ _ _ N7.out).trans rfl
          have f0 : w7.cell? ⟨w6.heap.size, 0, none⟩ = some (.int .i64 da) := (cell_of_row _ _ 0 _ _ _ F7).trans rfl
          have f1 : w7.cell? ⟨w6.heap.size, 1, none⟩ = some (.int .i64 dc) := (cell_of_row _ _ 1 _ _ _ F7).trans rfl
          have p0 : w7.cell? ⟨pb, 0, none⟩ = some (.int .i64 cl) := (cell_of_row _ _ 0 _ _ _ P7.out).trans rfl
          have p1 : w7.cell? ⟨pb, 1, none⟩ = some (.int .i64 sq') := (cell_of_row _ _ 1 _ _ _ P7.out).trans rfl
          have p2 : w7.cell? ⟨pb, 2, none⟩ = some (.slice rA rn rc) := (cell_of_row _ _ 2 _ _ _ P7.out).trans rfl
          have p3 : w7.cell? ⟨pb, 3, none⟩ = some (.int .i64 at_) := (cell_of_row _ _ 3 _ _ _ P7.out).trans rfl
          have p4 : w7.cell? ⟨pb, 4, none⟩ = some (.int .i64 code) := (cell_of_row _ _ 4 _ _ _ P7.out).trans rfl
          have pf0 : w7.frozen? ⟨pb, 0, none⟩ = false := by simp [World.frozen?, P7.out]
          have pf1 : w7.frozen? ⟨pb, 1, none⟩ = false := by simp [World.frozen?, P7.out]
          have pf2 : w7.frozen? ⟨pb, 2, none⟩ = false := by simp [World.frozen?, P7.out]
          have pf3 : w7.frozen? ⟨pb, 3, none⟩ = false := by simp [World.frozen?, P7.out]
          have pf4 : w7.frozen? ⟨pb, 4, none⟩ = false := by simp [World.frozen?, P7.out]
          have F7a := Asd.mk F7
          clear F7 hz7
          go_upto_region 13 with fail
          have g8 := gb5 w7 pb (.int .i64 7) (.int .i64 sq) (.slice A6 n6 c6) (.int .i64 da) (.int .i64 dc)
          have p8 := cells5 P7.out (.int .i64 7) (.int .i64 sq) (.slice A6 n6 c6) (.int .i64 da) (.int .i64 dc)
          clear u0 u1 f0 f1 p0 p1 p2 p3 p4 pf0 pf1 pf2 pf3 pf4
          generalize ((((w7.setCell ⟨pb, 0, none⟩ (.int .i64 7)).setCell ⟨pb, 1, none⟩ (.int .i64 sq)).setCell ⟨pb, 2, none⟩ (.slice A6 n6 c6)).setCell ⟨pb, 3, none⟩ (.int .i64 da)).setCell ⟨pb, 4, none⟩ (.int .i64 dc) = w8 at g8 p8 ⊢
          have P8 := Asd.mk p8
          have G8 := Asd.mk (gb_new (gb_trans G6.out (gb_below A7.out _)) g8 PB.out)
          have N8 := Asd.mk ((g8.block _ (Array.getElem?_eq_some_iff.1 N7.out).1 (fun e => by
            injection e with e
            have h := N7.out
            rw [e, P7.out] at h
            injection h with h
            injection h with _ h
            exact absurd h (by decide))).trans N7.out)
          have HPB : Asd (base ≤ pb) := ⟨Nat.le_trans HB.out.1 PB.out⟩
          have RS8 := Asd.mk ((RS6.out.below A7.out).keepR fun qs hq => hq.grown g8 P7.out (by decide) HPB.out)
          have T8 := Asd.mk ((T6.out.below A7.out).grownR g8 (U := 51) (fun j hj => by injection hj with hj; subst hj; exact ⟨⟨_, _, P7.out⟩, HPB.out⟩) (by decide) (by decide))
          have BK8 := Asd.mk (H.out.1.gbt G8.out H.out.2.1.blk H.out.2.1.ge)
          have NT := Asd.mk (Note_calls BK8.out (by have := HD.out; omega) (Nat.le_trans HB.out.1 G8.out.size) HB.out.2.1 HB.out.2.2 HD.out.1 HD.out.2.1 sq da dc RS8.out RL6.out RO6.out XM.out.1 XM.out.2)
          have u1 : w8.cell? ⟨w3.heap.size, 1, none⟩ = some (.int .i64 sq) := (cell_of_row _ _ 1 _ _ _ N8.out).trans rfl
          have p0 : w8.cell? ⟨pb, 0, none⟩ = some (.int .i64 7) := (cell_of_row _ _ 0 _ _ _ P8.out).trans rfl
          have p1 : w8.cell? ⟨pb, 1, none⟩ = some (.int .i64 sq) := (cell_of_row _ _ 1 _ _ _ P8.out).trans rfl
          have p2 : w8.cell? ⟨pb, 2, none⟩ = some (.slice A6 n6 c6) := (cell_of_row _ _ 2 _ _ _ P8.out).trans rfl
          have p3 : w8.cell? ⟨pb, 3, none⟩ = some (.int .i64 da) := (cell_of_row _ _ 3 _ _ _ P8.out).trans rfl
          have p4 : w8.cell? ⟨pb, 4, none⟩ = some (.int .i64 dc) := (cell_of_row _ _ 4 _ _ _ P8.out).trans rfl
          have ul : w3.heap.size < w8.heap.size := (Array.getElem?_eq_some_iff.1 N8.out).1
          have pl : pb < w8.heap.size := (Array.getElem?_eq_some_iff.1 P8.out).1
          clear g8 p8
          go_wp2_with fail
          refine NT.out.mono ?_
          rintro e w9 ⟨rfl, hc9, A9, n9, c9, q, hk9, hn9, q1, q2, q3, q4⟩
          have SV : Asd (SvN base bb mb tg depth A reps rows ops sq da dc (dres.map toS) w w9) := ⟨by
            refine ⟨XM.out.1, XM.out.2, by rw [DD.out], by rw [DD.out], by rw [DD.out], (Chg.of_gb G8.out (fun g hg => .inr (by injection hg with hg; exact hg.symm))).trans (hc9.mono fun b hb => .inl hb), ⟨A9, n9, c9, q, hk9, hn9, q1, q2, q3, q4⟩, ?_⟩
            rw [DD.out]
            exact ⟨_, _, T8.out.note hc9 BK8.out.map HB.out.2.2 BK8.out.mid⟩⟩
          have RS9 := Asd.mk (RS8.out.keepR fun qs hq => hq.note (by decide) hc9 BK8.out.map HB.out.2.2 BK8.out.mid)
          have P9 := Asd.mk ((hc9.block pb (Array.getElem?_eq_some_iff.1 P8.out).1 (by
            rintro (e | ⟨a, ha, e⟩)
            · obtain ⟨es, clock, hm, _⟩ := BK8.out.map
              have h := P8.out
              rw [e, hm] at h
              injection h with h
              cases h
            · rcases H.out.1.mid.row with h | ⟨g, off', cur, h, _, hg, _⟩
              · rw [h] at ha
                cases ha
              · rw [h] at ha
                injection ha with ha
                subst ha
                have h1 := (Array.getElem?_eq_some_iff.1 hg).1
                have h2 := PB.out
                simp only at e
                omega)).trans P8.out)
          have Z9 : Asd (base ≤ w9.heap.size) := ⟨Nat.le_trans HB.out.1 (Nat.le_trans G8.out.size hc9.size)⟩
          clear hc9 hk9 hn9 q1 q2 q3 q4 NT u1 p0 p1 p2 p3 p4 ul pl
          go_wp2_with fail
          go_meet
          case rel => exact ⟨sq, da, dc, A6, n6, c6, dres.map toS, rfl, ⟨.inr ⟨rfl, SV.out⟩⟩, P9, RS9, RL6, RO6, Z9⟩
      case rest =>
        obtain ⟨d, at', code', rA', rn', rc', rs, rfl, SM, PD, RD, RL, RK, ZD⟩ := hcut
        clear XC PC N5 R5 B5
        obtain ⟨qs, hq1, hq2, hq3⟩ := RD.out
        have p0 : wc.cell? ⟨pb, 0, none⟩ = some (.int .i64 7) := (cell_of_row _ _ 0 _ _ _ PD.out).trans rfl
        have p1 : wc.cell? ⟨pb, 1, none⟩ = some (.int .i64 sq) := (cell_of_row _ _ 1 _ _ _ PD.out).trans rfl
        have p2 : wc.cell? ⟨pb, 2, none⟩ = some (.slice rA' rn' rc') := (cell_of_row _ _ 2 _ _ _ PD.out).trans rfl
        have p3 : wc.cell? ⟨pb, 3, none⟩ = some (.int .i64 at') := (cell_of_row _ _ 3 _ _ _ PD.out).trans rfl
        have p4 : wc.cell? ⟨pb, 4, none⟩ = some (.int .i64 code') := (cell_of_row _ _ 4 _ _ _ PD.out).trans rfl
        have pl : pb < wc.heap.size := (Array.getElem?_eq_some_iff.1 PD.out).1
        have EN' := EncodeReply_calls (base := base) 7 sq at' code' hq1 (by have := RL.out; omega) ZD.out
        rw [hq2] at EN'
        have hec : (rencP 7 sq at' code' rs).2 = 0 ∨ (rencP 7 sq at' code' rs).2 = 2 := by
          unfold rencP
          rw [if_pos RK.out]
          unfold encP
          split
          · exact .inr rfl
          · split
            · exact .inr rfl
            · exact .inl rfl
        have hsm : (rencP 7 sq at' code' rs).2 = 0 → (rencP 7 sq at' code' rs).1.size ≤ 262144 := fun h => by
          have hh : rencP 7 sq at' code' rs = ((rencP 7 sq at' code' rs).1, 0) := by rw [← h]
          have := (rround hh).2.1
          omega
        have AN : Asd (ansB sq at' code' rs = if (rencP 7 sq at' code' rs).2 = 0 then (encP [intF 1, txtF (rencP 7 sq at' code' rs).1]).1 else ⟨#[]⟩) := ⟨rfl⟩
        obtain ⟨⟨es, ee⟩, hen⟩ : ∃ en, rencP 7 sq at' code' rs = en := ⟨_, rfl⟩
        rw [hen] at EN' hec hsm AN
        simp only at EN' hec hsm AN
        have EN := Asd.mk EN'
        have HS := Asd.mk hsm
        clear EN' hsm hen hq1 hq2 hq3
        rcases hec with rfl | rfl
        · have C2' := fun (W : World) (hW : base ≤ W.heap.size) => Encode_calls (base := base) (w := W.alloc (.cells #[.bool false, .int .i64 1, .string ⟨#[]⟩, .bool true, .int .i64 0, .string es] 94)) (A := some ⟨W.heap.size, 0, none⟩) (n := 2) (c := 2) (l := [intF 1, txtF es]) (Rd.new_ rfl rfl) (by
            intro f hf
            simp only [List.mem_cons, List.not_mem_nil, or_false] at hf
            rcases hf with rfl | rfl
            · exact (good_int (by decide) (by decide)).1
            · exact (good_txt (HS.out rfl)).1) (by simp; omega)
          have hee : (encP [intF 1, txtF es]).2 = 0 ∨ (encP [intF 1, txtF es]).2 = 2 := by
            unfold encP
            split
            · exact .inr rfl
            · split
              · exact .inr rfl
              · exact .inl rfl
          obtain ⟨⟨fs, fe⟩, hfe⟩ : ∃ en, encP [intF 1, txtF es] = en := ⟨_, rfl⟩
          rw [hfe] at hee AN
          simp only at hee AN
          have C2 : Asd (∀ (W : World), base ≤ W.heap.size → Calls Tryz.prog 37 #[.slice (some ⟨W.heap.size, 0, none⟩) 2 2] (W.alloc (.cells #[.bool false, .int .i64 1, .string ⟨#[]⟩, .bool true, .int .i64 0, .string es] 94)) (fun e w' => e = .returned (.tuple #[.string fs, .int .i64 fe]) ∧ Below (W.alloc (.cells #[.bool false, .int .i64 1, .string ⟨#[]⟩, .bool true, .int .i64 0, .string es] 94)).heap.size (W.alloc (.cells #[.bool false, .int .i64 1, .string ⟨#[]⟩, .bool true, .int .i64 0, .string es] 94)) w')) := ⟨fun W hW => by
            have h := C2' W hW
            rw [hfe] at h
            exact h⟩
          clear C2' hfe
          rcases hee with rfl | rfl
          · go_wp2_with fail
            refine EN.out.mono ?_
            rintro e w7 ⟨rfl, hb7⟩
            have B7 := Asd.mk hb7
            clear hb7
            go_wp2_with fail
            refine (C2.out _ (Nat.le_trans ZD.out B7.out.size)).mono ?_
            rintro e w8 ⟨rfl, hb8⟩
            have B8 := Asd.mk (B7.out.trans (((Below.refl w7.heap.size w7).alloc (Nat.le_refl _) _ |>.trans (hb8.mono (by simp))).mono B7.out.size))
            clear hb8
            go_wp2_with fail
            go_ret3
            exact .inr ⟨d, at', code', rs, by rw [AN.out]; rfl, SM.out.next B8.out⟩
          · go_wp2_with fail
            refine EN.out.mono ?_
            rintro e w7 ⟨rfl, hb7⟩
            have B7 := Asd.mk hb7
            clear hb7
            go_wp2_with fail
            refine (C2.out _ (Nat.le_trans ZD.out B7.out.size)).mono ?_
            rintro e w8 ⟨rfl, hb8⟩
            have B8 := Asd.mk (B7.out.trans (((Below.refl w7.heap.size w7).alloc (Nat.le_refl _) _ |>.trans (hb8.mono (by simp))).mono B7.out.size))
            clear hb8
            go_wp2_with fail
            go_ret3
            exact .inr ⟨d, at', code', rs, by rw [AN.out]; rfl, SM.out.next B8.out⟩
        · go_wp2_with fail
          refine EN.out.mono ?_
          rintro e w7 ⟨rfl, hb7⟩
          have B7 := Asd.mk hb7
          clear hb7
          go_wp2_with fail
          go_ret3
          exact .inr ⟨d, at', code', rs, by rw [AN.out, if_neg (by decide)]; rfl, SM.out.next B7.out⟩
end Go.Proofs.YtallnibjmffahaaGreatDoor

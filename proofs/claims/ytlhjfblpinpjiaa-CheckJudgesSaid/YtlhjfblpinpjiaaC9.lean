/- Rows; the document's Judge. -/
import Derived.Test.YtlhjfblpinpjiaaC8
import Derived.Test.YtlhjfblpinpjiaaC7
import Derived.Test.YtlhjfblpinpjiaaTpg
set_option linter.unusedVariables false
set_option linter.unusedSimpArgs false
namespace Go.Proofs.Ytlhjfblpinpjiaa
open Go.RowKit Go.Maps

/-- The rows that an order leaves; nothing where it is wrong. -/
def leftP (hs : List CallR) (os : List Int) : List Rw := if judgeP hs os = (0, 0) then rowsP0 (callsOf hs os) else []
theorem leftP_ok {hs : List CallR} {os : List Int} (h : judgeP hs os = (0, 0)) : leftP hs os = rowsP0 (callsOf hs os) := by unfold leftP; rw [if_pos h]
theorem leftP_no {hs : List CallR} {os : List Int} (h : judgeP hs os ≠ (0, 0)) : leftP hs os = [] := by unfold leftP; rw [if_neg h]
def RowsPost (base : Nat) (w : World) (hs : List CallR) (os : List Int) (e : Ending) (w' : World) : Prop :=
  Below w.heap.size w w' ∧ ∃ A' c', e = .returned (.tuple #[.slice A' (leftP hs os).length c', .agg #[.int .i64 (judgeP hs os).1, .int .i64 (judgeP hs os).2]]) ∧ Rd base 86 w' 3 A' (leftP hs os).length c' (rowCells (leftP hs os))
theorem leftP_big (hs : List CallR) (os : List Int) (h : (rowsP0 (callsOf hs os)).length ≤ 4096) : (leftP hs os).length ≤ 4096 := by
  unfold leftP
  split
  · exact h
  · simp

set_option maxHeartbeats 16000000 in
set_option maxRecDepth 100000 in
theorem CRows_calls {base : Nat} {w : World} {A B : Option Addr} {n c m d : Nat} {hs : List CallR} {os : List Int} (hh : Hist base w A n c hs) (ho : Ints base w B m d os) (hbs : base ≤ w.heap.size) :
    Calls Try.prog 18 #[.slice A n c, .slice B m d] w (RowsPost base w hs os) := by
  have JC : Asd (∀ W, Below w.heap.size w W → Calls Try.prog 35 #[.slice A n c, .slice B m d] W (JudgePost base W hs os)) :=
    ⟨fun W hW => judge_calls (hh.below hW) (ho.below hW) (Nat.le_trans hbs hW.size)⟩
  clear hh ho
  have FS := Asd.mk (FB.start w)
  by_cases hz : judgeP hs os = (0, 0)
  · have HZ := Asd.mk hz
    have LZ := Asd.mk (leftP_ok hz)
    clear hz
    go_enter Try.func18, Try.ntmps18
    go_wp2_with fail
    refine (JC.out _ FS.out.below).mono ?_
    rintro e w1 ⟨hb1, _, hg1⟩
    obtain ⟨g, A', c', rfl, hT⟩ := hg1 HZ.out
    have F1 := Asd.mk (FS.out.next hb1)
    have hal := (Below.refl w1.heap.size w1).alloc (Nat.le_refl _) (.cells #[.int .i64 0, .int .i64 0] 35)
    have F2 := Asd.mk (F1.out.next hal)
    have T2 := Asd.mk (hT.below hal)
    have hgl := hT.lt
    obtain ⟨x0, x1, x2⟩ := fault_cells (heap_alloc_new w1 (.cells #[.int .i64 0, .int .i64 0] 35))
    have x3 : w1.heap[w1.heap.size]? = none := by simp
    have X := Asd.mk (heap_alloc_new w1 (.cells #[.int .i64 0, .int .i64 0] 35))
    clear hb1 hg1 hT hal
    go_wp2_with fail
    generalize w1.heap.size = fb at x0 x1 x2 X ⊢
    generalize (w1.alloc (.cells #[.int .i64 0, .int .i64 0] 35)) = w2 at F2 T2 x0 x1 x2 X ⊢
    have RC := Asd.mk (fun W (hW : Below w2.heap.size w2 W) => Rows_calls (T2.out.below hW) ⟨⟨#[]⟩, ⟨#[]⟩⟩)
    rw [rows_all] at RC
    unfold SpanR.enc at RC
    go_region_with (go_at_call 24; refine (RC.out _ ((Below.refl w2.heap.size w2).drew)).mono ?_; rintro e w3 ⟨A3, c3, rfl, hr3, _, hb3⟩; have B3 := Asd.mk (((Below.refl w2.heap.size w2).drew).trans hb3); have R3 := Asd.mk hr3; have F3 := Asd.mk (F2.out.next B3.out); obtain ⟨y0, y1, y2⟩ := fault_cells ((B3.out.block _ x2).trans X.out); have f0 := F3.out.f0; have f1 := F3.out.f1; have ff := F3.out.fr; have fl := F3.out.lt; clear hb3 hr3)
    all_goals
      go_wp2_with fail
      refine bodyPost_ret (v := .tuple #[.slice A3 (rowsP0 (callsOf hs os)).length c3, .agg #[.int .i64 0, .int .i64 0]]) (by simp [results, Try.results18, go_sem, f0, f1, ff, fl]) rfl ?_
      refine ⟨by repeat (first | exact F3.out.below | refine Below.drew ?_ | refine Below.setCell ?_ (by simp) _ | refine Below.alloc ?_ (by simp; omega) _), A3, c3, by rw [HZ.out, LZ.out], ?_⟩
      rw [LZ.out]
      have hI : IsT w3 w.heap.size 35 := ⟨_, _, F3.out.blk⟩
      exact (R3.out.set (p := ⟨w.heap.size, 0, none⟩) hI (by decide) hbs _).set (p := ⟨w.heap.size, 1, none⟩) (hI.set _ _) (by decide) hbs _
  · have LZ := Asd.mk (leftP_no hz)
    have HZ := Asd.mk hz
    clear hz
    go_enter Try.func18, Try.ntmps18
    go_wp2_with fail
    refine (JC.out _ FS.out.below).mono ?_
    rintro e w1 ⟨hb1, h1, _⟩
    obtain rfl := h1 HZ.out
    have F1 := Asd.mk (FS.out.next hb1)
    clear hb1 h1
    generalize hfa : (judgeP hs os).1 = fa
    generalize hfc : (judgeP hs os).2 = fc
    have FA := Asd.mk hfa
    have FC := Asd.mk hfc
    clear hfa hfc
    have F2 := Asd.mk (F1.out.next ((Below.refl w1.heap.size w1).alloc (Nat.le_refl _) (.cells #[.int .i64 fa, .int .i64 fc] 35)))
    obtain ⟨x0, x1, x2⟩ := fault_cells (heap_alloc_new w1 (.cells #[.int .i64 fa, .int .i64 fc] 35))
    have f0 := F2.out.f0
    have f1 := F2.out.f1
    have ff := F2.out.fr
    have fl := F2.out.lt
    go_wp2_with fail
    go_region
    go_wp2_with fail
    refine bodyPost_ret (v := .tuple #[.slice none 0 0, .agg #[.int .i64 fa, .int .i64 fc]]) (by simp [results, Try.results18, go_sem, f0, f1, ff, fl]) rfl ?_
    exact ⟨by repeat (first | exact F2.out.below | refine Below.drew ?_ | refine Below.setCell ?_ (by simp) _ | refine Below.alloc ?_ (by simp; omega) _), none, 0, by rw [LZ.out, FA.out, FC.out]; rfl, by rw [LZ.out]; exact Rd.none_⟩

end Go.Proofs.Ytlhjfblpinpjiaa

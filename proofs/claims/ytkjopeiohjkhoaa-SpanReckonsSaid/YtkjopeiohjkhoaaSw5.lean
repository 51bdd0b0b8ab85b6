/- slices.SortFunc over ends. -/
import Derived.Test.YtkjopeiohjkhoaaSw2
import Derived.Test.YtkjopeiohjkhoaaSw3
import Derived.Shelf.SlSortCmp.NoneTotal
set_option linter.unusedVariables false
set_option linter.unusedSimpArgs false
namespace Go.Proofs.Ytkjopeiohjkhoaa
open Go.RowKit Go.Sort

def sortEnds_ren : Go.Shelf.Ren := ⟨fun | 6 => 37 | 15 => 45 | 14 => 44 | 28 => 56 | 29 => 57 | 20 => 48 | 21 => 49 | 22 => 50 | 23 => 51 | 24 => 52 | 25 => 53 | 26 => 54 | 27 => 55 | 46 => 58 | 47 => 59 | 48 => 60 | 49 => 61 | 50 => 62 | 57 => 63 | n => n, fun | 22 => 49 | 24 => 52 | 25 => 55 | 3 => 3 | 39 => 64 | 0 => 0 | 53 => 76 | 55 => 78 | 4 => 4 | 46 => 69 | 45 => 68 | 50 => 73 | 5 => 5 | 9 => 9 | 66 => 79 | 70 => 83 | 76 => 85 | 77 => 86 | n => n, fun | n => n⟩
theorem sortEnds : Go.Proofs.SlLaysF0.n6 Try.prog sortEnds_ren := {
  mixed := by kernel_rfl
  f6 := ⟨Try.f37.name, by decide, Try.func37.trans (congrArg some (by kernel_rfl))⟩
  f14 := ⟨Try.f44.name, by decide, Try.func44.trans (congrArg some (by kernel_rfl))⟩
  f15 := Try.func45.trans (congrArg some (by kernel_rfl))
  f20 := ⟨Try.f48.name, by decide, Try.func48.trans (congrArg some (by kernel_rfl))⟩
  f21 := ⟨Try.f49.name, by decide, Try.func49.trans (congrArg some (by kernel_rfl))⟩
  f22 := ⟨Try.f50.name, by decide, Try.func50.trans (congrArg some (by kernel_rfl))⟩
  f23 := ⟨Try.f51.name, by decide, Try.func51.trans (congrArg some (by kernel_rfl))⟩
  f24 := ⟨Try.f52.name, by decide, Try.func52.trans (congrArg some (by kernel_rfl))⟩
  f25 := ⟨Try.f53.name, by decide, Try.func53.trans (congrArg some (by kernel_rfl))⟩
  f26 := ⟨Try.f54.name, by decide, Try.func54.trans (congrArg some (by kernel_rfl))⟩
  f27 := ⟨Try.f55.name, by decide, Try.func55.trans (congrArg some (by kernel_rfl))⟩
  f28 := Try.func56.trans (congrArg some (by kernel_rfl))
  f29 := Try.func57.trans (congrArg some (by kernel_rfl))
  f46 := ⟨Try.f58.name, by decide, Try.func58.trans (congrArg some (by kernel_rfl))⟩
  f47 := Try.func59.trans (congrArg some (by kernel_rfl))
  f48 := Try.func60.trans (congrArg some (by kernel_rfl))
  f49 := ⟨Try.f61.name, by decide, Try.func61.trans (congrArg some (by kernel_rfl))⟩
  f50 := ⟨Try.f62.name, by decide, Try.func62.trans (congrArg some (by kernel_rfl))⟩
  f57 := ⟨Try.f63.name, by decide, Try.func63.trans (congrArg some (by kernel_rfl))⟩
  t0 := Try.underlying0
  a0 := Try.isAgg0
  z0 := Try.sizeOf0
  v0 := Try.zeroValue0
  t3 := Try.underlying3
  a3 := Try.isAgg3
  z3 := Try.sizeOf3
  v3 := Try.zeroValue3
  t4 := Try.underlying4
  a4 := Try.isAgg4
  z4 := Try.sizeOf4
  v4 := Try.zeroValue4
  t5 := Try.underlying5
  a5 := Try.isAgg5
  z5 := Try.sizeOf5
  v5 := Try.zeroValue5
  t9 := Try.underlying9
  a9 := Try.isAgg9
  z9 := Try.sizeOf9
  v9 := Try.zeroValue9
  t22 := Try.underlying49
  a22 := Try.isAgg49
  z22 := Try.sizeOf49
  v22 := Try.zeroValue49
  t25 := Try.underlying55
  a25 := Try.isAgg55
  z25 := Try.sizeOf55
  v25 := Try.zeroValue55
  t39 := Try.underlying64
  a39 := Try.isAgg64
  z39 := Try.sizeOf64
  v39 := Try.zeroValue64
  t45 := Try.underlying68
  a45 := Try.isAgg68
  z45 := Try.sizeOf68
  v45 := Try.zeroValue68
  t46 := Try.underlying69
  a46 := Try.isAgg69
  z46 := Try.sizeOf69
  v46 := Try.zeroValue69
  t50 := Try.underlying73
  a50 := Try.isAgg73
  z50 := Try.sizeOf73
  v50 := Try.zeroValue73
  t53 := Try.underlying76
  a53 := Try.isAgg76
  z53 := Try.sizeOf76
  v53 := Try.zeroValue76
  t55 := Try.underlying78
  a55 := Try.isAgg78
  z55 := Try.sizeOf78
  v55 := Try.zeroValue78
  t66 := Try.underlying79
  a66 := Try.isAgg79
  z66 := Try.sizeOf79
  v66 := Try.zeroValue79
  t70 := Try.underlying83
  a70 := Try.isAgg83
  z70 := Try.sizeOf83
  v70 := Try.zeroValue83
  t76 := Try.underlying85
  a76 := Try.isAgg85
  z76 := Try.sizeOf85
  v76 := Try.zeroValue85
  t77 := Try.underlying86
  a77 := Try.isAgg86
  z77 := Try.sizeOf86
  v77 := Try.zeroValue86 }

set_option maxHeartbeats 2000000 in
theorem ends_cmp (x y : EndR) (W : World) : Calls Try.prog 38 #[.agg #[.string x.key, .int .i64 x.list, .int .i64 x.by_], .agg #[.string y.key, .int .i64 y.list, .int .i64 y.by_]] W fun e w' => e = .returned (.int .i64 (Lib.compareBytes x.key.data.toList y.key.data.toList)) ∧ ∃ q os', w' = grow (W.drewN q) os' := by
  have hcon := fun W' => Compare_calls x.key y.key W'
  generalize Lib.compareBytes x.key.data.toList y.key.data.toList = r at hcon ⊢
  go_enter Try.func38, Try.ntmps38
  go_wp2_with (go_at_call 39; refine (hcon _).mono ?_; rintro e w' ⟨rfl, rfl⟩)
  go_ret
  exact ⟨rfl, 0, _, by rw [alloc_eq_grow, alloc_eq_grow, grow_grow]; rfl⟩
def cmpE (x y : EndR) : Int := Lib.compareBytes x.key.data.toList y.key.data.toList
theorem ltE (x y : EndR) : ltOf cmpE x y = decide (klt x.key y.key) := by
  unfold ltOf cmpE
  rw [Bool.eq_iff_iff, decide_eq_true_iff, decide_eq_true_iff]
  exact cmp_lt _ _
theorem swoE : SWO (ltOf cmpE) where
  irrefl x := by rw [ltE]; exact decide_eq_false (klt_irrefl _)
  trans x y z h1 h2 := by
    rw [ltE, decide_eq_true_iff] at *
    exact klt_trans h1 h2
  ntrans x y z h1 h2 := by
    rw [ltE, decide_eq_false_iff_not] at *
    intro h3
    exact h1 (klt_not_trans h3 h2)
set_option maxHeartbeats 2000000 in
theorem sort_spec : SortSpec := by
  intro w own A n c L hO hn
  have hlen := own_elen hO
  by_cases h0 : n = 0
  · subst h0
    have hL : L = [] := List.eq_nil_of_length_eq_zero hlen
    subst hL
    have hc := AnyF.slices_SortFunc_none sortEnds A c (.func (.func 38) #[] #[]) w
    change Calls Try.prog 37 _ _ _ at hc
    refine hc.mono ?_
    rintro e w' ⟨rfl, rfl⟩
    exact ⟨rfl, [], List.Perm.refl _, fun i j hi => absurd hi (Nat.not_lt_zero _), hO, ⟨rfl, rfl, rfl, Nat.le_refl _, fun _ _ _ => rfl⟩⟩
  · obtain ⟨g, rfl⟩ : ∃ g, A = some ⟨g, 0, none⟩ := by
      rcases hO.2 with ⟨h1, h2⟩ | ⟨g, cap, cur, hv, _⟩
      · exact absurd h2 h0
      · injection hv with hv
        exact ⟨g, hv⟩
    have hH := holds_of_own (enc := EndR.enc) (fun _ => rfl) hO
    have eg : ∀ args w, (callFunc 38 args).run Try.prog w = .ok (.enter 38 args) w := enters_of Try.func38 (by kernel_rfl) rfl
    have hblk : g < w.heap.size := (hO.lt g rfl).2
    have hc := AnyQ.slices_SortFunc sortEnds 3 Try.isAgg52 Try.sizeOf52 EndR.enc (fun _ => rfl) (fun x v hv => by simp [EndR.enc] at hv; rcases hv with rfl | rfl | rfl <;> rfl) cmpE swoE 38 #[] g 0 c L.toArray w eg (fun _ _ _ _ x y => ends_cmp x y _) hH hblk (by rw [List.size_toArray]; omega)
    change Calls Try.prog 37 _ _ _ at hc
    rw [List.size_toArray, hlen] at hc
    refine hc.mono ?_
    rintro e w' ⟨rfl, d', m, os, hp, hs, rfl⟩
    have hd : d'.size = n := by rw [hp.1, List.size_toArray, hlen]
    obtain ⟨h1, h2⟩ := own_of_sort (enc := EndR.enc) (fun _ => rfl) hO hlen d' hd m os
    refine ⟨rfl, d'.toList, ?_, ?_, h1, h2⟩
    · have h3 := hp.2.2
      rw [Array.extract_eq_self_of_le (by omega), Array.extract_eq_self_of_le (by rw [List.size_toArray]; omega)] at h3
      exact h3
    · intro i j hi hj hij
      rw [Array.length_toList] at hi hj
      have h3 := hs i j (Nat.zero_le _) hij (by omega)
      rw [ltE, decide_eq_false_iff_not, getElem!_pos d' i hi, getElem!_pos d' j hj] at h3
      exact h3
end Go.Proofs.Ytkjopeiohjkhoaa

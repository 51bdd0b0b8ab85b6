/- slices.SortFunc over rows. -/
import Derived.Test.YtgiajfgeplekbaaP1
import Derived.Shelf.SlSortCmp.InsertionK
import Derived.Shelf.SlSortCmp.NoneTotal
set_option linter.unusedVariables false
set_option linter.unusedSimpArgs false
namespace Go.Proofs.Ytgiajfgeplekbaa
open Go.RowKit Go.Sort


theorem flat_list {α : Type} [Inhabited α] (enc : α → List Value) (k : Nat) (hk : ∀ x, (enc x).length = k) (d : Array α) : (flatK enc k d).toList = d.toList.flatMap enc := by
  apply List.ext_getElem
  · rw [flat_len enc k hk]; simp
  · intro t h1 h2
    have ht : t < d.size * k := by simpa using h1
    have hk0 : 0 < k := by
      rcases Nat.eq_zero_or_pos k with h | h
      · subst h; simp at ht
      · exact h
    have hq : t / k < d.size := Nat.div_lt_of_lt_mul (by rwa [Nat.mul_comm])
    have hr := Nat.mod_lt t hk0
    have e := flat_get enc k hk d.toList (t / k) (t % k) (by simpa using hq) hr
    rw [Nat.div_add_mod' t k, List.getElem?_eq_getElem h2, List.getElem?_eq_getElem (by rw [hk]; exact hr)] at e
    injection e with e
    have g := get_flatK enc k d t ht
    rw [getElem!_pos _ t (by simpa using ht), getElem!_pos d (t / k) hq, getElem!_pos _ (t % k) (by rw [hk]; exact hr)] at g
    rw [e, Array.getElem_toList, g]
    rfl
theorem holds_of_own {α : Type} [Inhabited α] {enc : α → List Value} {k : Nat} (hk : ∀ x, (enc x).length = k) {w : World} {own T g n c : Nat} {L : List α} (h : w.ownsRow own T k (.slice (some ⟨g, 0, none⟩) n c) n (L.flatMap enc)) :
    HoldsK enc k w g 0 L.toArray := by
  rcases h.2 with ⟨h1, _⟩ | ⟨g', cap, cur, hv, hb, hh, h1, h2, h3, h4⟩
  · cases h1
  · injection hv with hv _ hcap
    injection hv with hv
    injection hv with hv _ _
    subst hv
    intro j hj
    have hl := flat_list enc k hk L.toArray
    rw [List.toList_toArray] at hl
    rw [← hl] at h4
    have hjl : j < (flatK enc k L.toArray).toList.length := by simpa using hj
    have e : (flatK enc k L.toArray).toList[j]? = cur.toList[j]? := by
      rw [← h4, List.getElem?_take, if_pos]
      rw [← h4] at hjl
      rw [List.length_take] at hjl
      omega
    rw [List.getElem?_eq_getElem hjl, Array.getElem?_toList, Array.getElem_toList] at e
    rw [Nat.zero_add]
    refine ⟨?_, ?_⟩
    · rw [cell_of_row w g j _ _ _ hh, ← e, getElem!_pos _ j hj]; rfl
    · unfold World.frozen?
      simp [hh]
theorem own_of_sort {α : Type} [Inhabited α] {enc : α → List Value} {k : Nat} (hk : ∀ x, (enc x).length = k) {w : World} {own T g n c : Nat} {L : List α} (h : w.ownsRow own T k (.slice (some ⟨g, 0, none⟩) n c) n (L.flatMap enc)) (hL : L.length = n) (d : Array α) (hd : d.size = n) (m : Nat) (os : Array Obj) :
    (sortWorldK enc k w g 0 m d os).ownsRow own T k (.slice (some ⟨g, 0, none⟩) n c) n (d.toList.flatMap enc) ∧ w.grownBy (sortWorldK enc k w g 0 m d os) (some g) := by
  rcases h.2 with ⟨h1, _⟩ | ⟨g', cap, cur, hv, hb, hh, h1, h2, h3, h4⟩
  · cases h1
  · injection hv with hv _ hcap
    injection hv with hv
    injection hv with hv _ _
    subst hv hcap
    have hg : g < w.heap.size := (Array.getElem?_eq_some_iff.1 hh).1
    have hF : (flatK enc k d).size = n * k := by rw [size_flatK, hd]
    have hheap : (sortWorldK enc k w g 0 m d os).heap[g]? = some (.cells (putCells id 0 (flatK enc k d) cur) T (0, 0)) := by
      unfold sortWorldK putRowK putRow mapBlock grow Sort.ahead
      simp only [Array.getElem?_append, Array.size_modify, if_pos hg, Array.getElem?_modify, hh]
      rfl
    refine ⟨⟨by rw [flat_len enc k hk, Array.length_toList, hd], .inr ⟨g, c, _, rfl, hb, hheap, h1, h2, by simp [putCells, h3], ?_⟩⟩, ?_⟩
    · rw [← flat_list enc k hk d]
      apply List.ext_getElem
      · simp [putCells, h3, hd]
        rw [Nat.min_eq_left h1]
      · intro j hj1 hj2
        have hj : j < n * k := by rw [Array.length_toList, hF] at hj2; exact hj2
        rw [List.getElem_take, Array.getElem_toList, Array.getElem_toList]
        simp only [putCells, Array.getElem_mapIdx]
        rw [if_pos ⟨Nat.zero_le _, by rw [hF]; omega⟩, Nat.sub_zero, getElem!_pos _ j (by rw [hF]; exact hj)]
        rfl
    · refine ⟨rfl, rfl, rfl, ?_, fun i hi hne => ?_⟩
      · unfold sortWorldK putRowK putRow mapBlock grow Sort.ahead
        simp
      · have : g ≠ i := fun e => hne (by rw [e])
        unfold sortWorldK putRowK putRow mapBlock grow Sort.ahead
        simp only [Array.getElem?_append, Array.size_modify, if_pos hi, Array.getElem?_modify, if_neg this]

/-- slices.SortFunc over rows. -/
def SortRows : Prop := ∀ (w : World) (own : Nat) (A : Option Addr) (n c : Nat) (L : List Rw), w.ownsRow own 29 3 (.slice A n c) n (rowCells L) → n ≤ 100000 →
  Calls Try.prog 48 #[.slice A n c, .func (.func 49) #[] #[]] w fun e w' => e = .returned (.tuple #[]) ∧
    ∃ E : List Rw, E.Perm L ∧ (∀ i j (hi : i < E.length) (hj : j < E.length), i < j → ¬ klt E[j].key E[i].key) ∧ w'.ownsRow own 29 3 (.slice A n c) n (rowCells E) ∧ w.grownBy w' (Value.slice A n c).ownBlock
def sortRows_ren : Go.Shelf.Ren := ⟨fun | 6 => 48 | 15 => 61 | 14 => 60 | 28 => 80 | 29 => 81 | 20 => 72 | 21 => 73 | 22 => 74 | 23 => 75 | 24 => 76 | 25 => 77 | 26 => 78 | 27 => 79 | 46 => 84 | 47 => 85 | 48 => 86 | 49 => 87 | 50 => 88 | 57 => 89 | n => n, fun | 22 => 22 | 24 => 29 | 25 => 77 | 3 => 3 | 39 => 85 | 0 => 0 | 53 => 104 | 55 => 49 | 4 => 4 | 46 => 98 | 45 => 97 | 50 => 62 | 5 => 5 | 9 => 9 | 66 => 106 | 70 => 110 | 76 => 112 | 77 => 113 | n => n, fun | n => n⟩
theorem sortRows : Go.Proofs.SlLaysF0.n6 Try.prog sortRows_ren := {
  mixed := by kernel_rfl
  f6 := ⟨Try.f48.name, by decide, Try.func48.trans (congrArg some (by kernel_rfl))⟩
  f14 := ⟨Try.f60.name, by decide, Try.func60.trans (congrArg some (by kernel_rfl))⟩
  f15 := Try.func61.trans (congrArg some (by kernel_rfl))
  f20 := ⟨Try.f72.name, by decide, Try.func72.trans (congrArg some (by kernel_rfl))⟩
  f21 := ⟨Try.f73.name, by decide, Try.func73.trans (congrArg some (by kernel_rfl))⟩
  f22 := ⟨Try.f74.name, by decide, Try.func74.trans (congrArg some (by kernel_rfl))⟩
  f23 := ⟨Try.f75.name, by decide, Try.func75.trans (congrArg some (by kernel_rfl))⟩
  f24 := ⟨Try.f76.name, by decide, Try.func76.trans (congrArg some (by kernel_rfl))⟩
  f25 := ⟨Try.f77.name, by decide, Try.func77.trans (congrArg some (by kernel_rfl))⟩
  f26 := ⟨Try.f78.name, by decide, Try.func78.trans (congrArg some (by kernel_rfl))⟩
  f27 := ⟨Try.f79.name, by decide, Try.func79.trans (congrArg some (by kernel_rfl))⟩
  f28 := Try.func80.trans (congrArg some (by kernel_rfl))
  f29 := Try.func81.trans (congrArg some (by kernel_rfl))
  f46 := ⟨Try.f84.name, by decide, Try.func84.trans (congrArg some (by kernel_rfl))⟩
  f47 := Try.func85.trans (congrArg some (by kernel_rfl))
  f48 := Try.func86.trans (congrArg some (by kernel_rfl))
  f49 := ⟨Try.f87.name, by decide, Try.func87.trans (congrArg some (by kernel_rfl))⟩
  f50 := ⟨Try.f88.name, by decide, Try.func88.trans (congrArg some (by kernel_rfl))⟩
  f57 := ⟨Try.f89.name, by decide, Try.func89.trans (congrArg some (by kernel_rfl))⟩
  t0 := Try.underlying0
  a0 := Try.isAgg0
  z0 := Try.sizeOf0
  v0 := Try.zeroValue0
  t3 := Try.underlying3
  a3 := Try.isAgg3
  z3 := Try.sizeOf3
  v3 := Try.zeroValue3
  t4 := Try.underlying4
  a4 := Try.isAgg4
  z4 := Try.sizeOf4
  v4 := Try.zeroValue4
  t5 := Try.underlying5
  a5 := Try.isAgg5
  z5 := Try.sizeOf5
  v5 := Try.zeroValue5
  t9 := Try.underlying9
  a9 := Try.isAgg9
  z9 := Try.sizeOf9
  v9 := Try.zeroValue9
  t22 := Try.underlying22
  a22 := Try.isAgg22
  z22 := Try.sizeOf22
  v22 := Try.zeroValue22
  t25 := Try.underlying77
  a25 := Try.isAgg77
  z25 := Try.sizeOf77
  v25 := Try.zeroValue77
  t39 := Try.underlying85
  a39 := Try.isAgg85
  z39 := Try.sizeOf85
  v39 := Try.zeroValue85
  t45 := Try.underlying97
  a45 := Try.isAgg97
  z45 := Try.sizeOf97
  v45 := Try.zeroValue97
  t46 := Try.underlying98
  a46 := Try.isAgg98
  z46 := Try.sizeOf98
  v46 := Try.zeroValue98
  t50 := Try.underlying62
  a50 := Try.isAgg62
  z50 := Try.sizeOf62
  v50 := Try.zeroValue62
  t53 := Try.underlying104
  a53 := Try.isAgg104
  z53 := Try.sizeOf104
  v53 := Try.zeroValue104
  t55 := Try.underlying49
  a55 := Try.isAgg49
  z55 := Try.sizeOf49
  v55 := Try.zeroValue49
  t66 := Try.underlying106
  a66 := Try.isAgg106
  z66 := Try.sizeOf106
  v66 := Try.zeroValue106
  t70 := Try.underlying110
  a70 := Try.isAgg110
  z70 := Try.sizeOf110
  v70 := Try.zeroValue110
  t76 := Try.underlying112
  a76 := Try.isAgg112
  z76 := Try.sizeOf112
  v76 := Try.zeroValue112
  t77 := Try.underlying113
  a77 := Try.isAgg113
  z77 := Try.sizeOf113
  v77 := Try.zeroValue113 }

set_option maxHeartbeats 2000000 in
theorem rows_cmp (x y : Rw) (W : World) : Calls Try.prog 49 #[.agg #[.string x.key, .int .i64 x.stamp, .string x.val], .agg #[.string y.key, .int .i64 y.stamp, .string y.val]] W fun e w' => e = .returned (.int .i64 (Lib.compareBytes x.key.data.toList y.key.data.toList)) ∧ ∃ q os', w' = grow (W.drewN q) os' := by
  go_enter Try.func49, Try.ntmps49
  go_wp2_with (go_at_call 50; refine (strings_Compare _ _ _).mono ?_; rintro e w' ⟨rfl, rfl⟩)
  go_ret
  exact ⟨rfl, 0, _, by rw [alloc_eq_grow, alloc_eq_grow, grow_grow]; rfl⟩
def cmpR (x y : Rw) : Int := Lib.compareBytes x.key.data.toList y.key.data.toList
theorem ltR (x y : Rw) : ltOf cmpR x y = decide (klt x.key y.key) := by
  unfold ltOf cmpR
  rw [Bool.eq_iff_iff, decide_eq_true_iff, decide_eq_true_iff]
  exact cmp_lt _ _
theorem swoR : SWO (ltOf cmpR) where
  irrefl x := by rw [ltR]; exact decide_eq_false (klt_irrefl _)
  trans x y z h1 h2 := by
    rw [ltR, decide_eq_true_iff] at *
    exact klt_trans h1 h2
  ntrans x y z h1 h2 := by
    rw [ltR, decide_eq_false_iff_not] at *
    intro h3
    exact h1 (klt_not_trans h3 h2)
set_option maxHeartbeats 2000000 in
theorem sort_rows : SortRows := by
  intro w own A n c L hO hn
  have hlen := (own_len hO).symm
  by_cases h0 : n = 0
  · subst h0
    have hL : L = [] := List.eq_nil_of_length_eq_zero hlen
    subst hL
    have hc := AnyF.slices_SortFunc_none sortRows A c (.func (.func 49) #[] #[]) w
    change Calls Try.prog 48 _ _ _ at hc
    refine hc.mono ?_
    rintro e w' ⟨rfl, rfl⟩
    exact ⟨rfl, [], List.Perm.refl _, fun i j hi => absurd hi (Nat.not_lt_zero _), hO, ⟨rfl, rfl, rfl, Nat.le_refl _, fun _ _ _ => rfl⟩⟩
  · obtain ⟨g, rfl⟩ : ∃ g, A = some ⟨g, 0, none⟩ := by
      rcases hO.2 with ⟨h1, h2⟩ | ⟨g, cap, cur, hv, _⟩
      · exact absurd h2 h0
      · injection hv with hv
        exact ⟨g, hv⟩
    have hH := holds_of_own (enc := Rw.enc) (fun _ => rfl) hO
    have eg : ∀ args w, (callFunc 49 args).run Try.prog w = .ok (.enter 49 args) w := enters_of Try.func49 (by kernel_rfl) rfl
    have hblk : g < w.heap.size := (hO.lt g rfl).2
    have hc := AnyQ.slices_SortFunc sortRows 3 Try.isAgg29 Try.sizeOf29 Rw.enc (fun _ => rfl) (fun x v hv => by simp [Rw.enc] at hv; rcases hv with rfl | rfl | rfl <;> rfl) cmpR swoR 49 #[] g 0 c L.toArray w eg (fun _ _ _ _ x y => rows_cmp x y _) hH hblk (by rw [List.size_toArray]; omega)
    change Calls Try.prog 48 _ _ _ at hc
    rw [List.size_toArray, hlen] at hc
    refine hc.mono ?_
    rintro e w' ⟨rfl, d', m, os, hp, hs, rfl⟩
    have hd : d'.size = n := by rw [hp.1, List.size_toArray, hlen]
    obtain ⟨h1, h2⟩ := own_of_sort (enc := Rw.enc) (fun _ => rfl) hO hlen d' hd m os
    refine ⟨rfl, d'.toList, ?_, ?_, h1, h2⟩
    · have h3 := hp.2.2
      rw [Array.extract_eq_self_of_le (by omega), Array.extract_eq_self_of_le (by rw [List.size_toArray]; omega)] at h3
      exact h3
    · intro i j hi hj hij
      rw [Array.length_toList] at hi hj
      have h3 := hs i j (Nat.zero_le _) hij (by omega)
      rw [ltR, decide_eq_false_iff_not, getElem!_pos d' i hi, getElem!_pos d' j hj] at h3
      exact h3
end Go.Proofs.Ytgiajfgeplekbaa

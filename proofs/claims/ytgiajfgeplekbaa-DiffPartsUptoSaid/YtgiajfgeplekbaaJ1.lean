/- The document's Has. -/
import Derived.Test.YtgiajfgeplekbaaDh
import Derived.Laws.Cover1
set_option linter.unusedVariables false
set_option linter.unusedSimpArgs false
namespace Go.Proofs.Ytgiajfgeplekbaa
open Go.RowKit

set_option maxHeartbeats 4000000 in
theorem RefHas_calls {base : Nat} {w : World} {A : Option Addr} {n c : Nat} {l : List SpanR} (hr : Rd base 39 w 2 A n c (sCells l)) (hbig : n ≤ 140737488355328) (key : ByteArray) :
    Calls Try.prog 43 #[.slice A n c, .string key] w fun e w' => e = .returned (.bool (l.any (hasP key))) ∧ w' = w := by
  have hn := hr.count (enc := SpanR.enc) (fun _ => rfl) (by omega)
  have R := Asd.mk hr
  have N := Asd.mk hn
  clear hr hn
  go_enter Try.func43, Try.ntmps43
  go_wp2_with fail
  go_loopw [5] (fun s5 wr => ∃ k : Nat, s5 = .int .i64 k ∧ k ≤ n ∧ Asd (wr = w) ∧ Asd ((l.take k).any (hasP key) = false)) (fun s5 _ => n - (intOf s5).toNat)
  case atStart => exact ⟨0, rfl, Nat.zero_le _, ⟨rfl⟩, ⟨rfl⟩⟩
  case round =>
    obtain ⟨k, rfl, hkn, HW, I⟩ := hrel
    obtain rfl := HW.out
    by_cases hlt : k < n
    · obtain ⟨b, off, rfl, hb, hl, hcs⟩ := R.out.at_enc (enc := SpanR.enc) (fun _ => rfl) (by omega) hlt
      have hcap : k < c := Nat.lt_of_lt_of_le hlt R.out.cap
      have hta : ∀ v, hasP key l[k] = v → (l.take (k + 1)).any (hasP key) = v := fun v hv => by
        rw [List.take_succ_eq_append_getElem hl, List.any_append, I.out, List.any_cons, hv]
        simp
      have hmem := List.getElem_mem hl
      generalize l[k] = y at hcs hta hmem
      have TA := Asd.mk hta
      have ME := Asd.mk hmem
      obtain ⟨f, t⟩ := y
      have c0 : wr.cell? ⟨b, off + k * 2, none⟩ = some (.string f) := hcs 0 _ rfl
      have c1 : wr.cell? ⟨b, off + k * 2 + 1, none⟩ = some (.string t) := hcs 1 _ rfl
      clear hcs hta hmem
      have h1 := less_eq key f
      have h2 := less_eq key t
      by_cases hf : klt key f
      · have VV : Asd (hasP key ⟨f, t⟩ = false) := ⟨by unfold hasP; simp only; rw [decide_eq_true hf]; rfl⟩
        rw [decide_eq_true hf] at h1
        clear h2 hf
        go_wp2_with fail
        go_roundw
        case measure => simp [intOf]; omega
        case rel => exact ⟨k + 1, by go_num, by omega, ⟨by simp⟩, ⟨TA.out _ VV.out⟩⟩
      · rw [decide_eq_false hf] at h1
        by_cases ht : t.size = 0
        · have VV : Asd (hasP key ⟨f, t⟩ = true) := ⟨by unfold hasP; simp only; rw [decide_eq_false hf, decide_eq_true ht]; rfl⟩
          have htl : t.toList = [] := by rw [tl_nil]; exact ht
          clear h2 hf ht
          go_wp2_with fail
          go_ret
          exact ⟨by rw [List.any_eq_true.2 ⟨_, ME.out, VV.out⟩]; rfl, rfl⟩
        · have htl : ¬ t.toList = [] := by rw [tl_nil]; exact ht
          have hte : ¬ t = ByteArray.empty := by rw [emp_iff]; exact htl
          have hie : t.toList.isEmpty = false := by rw [empty_eq]; exact decide_eq_false ht
          by_cases hl2 : klt key t
          · have VV : Asd (hasP key ⟨f, t⟩ = true) := ⟨by unfold hasP; simp only; rw [decide_eq_false hf, decide_eq_false ht, decide_eq_true hl2]; rfl⟩
            rw [decide_eq_true hl2] at h2
            clear hl2 hf ht
            go_wp2_with fail
            go_ret
            exact ⟨by rw [List.any_eq_true.2 ⟨_, ME.out, VV.out⟩]; rfl, rfl⟩
          · have VV : Asd (hasP key ⟨f, t⟩ = false) := ⟨by unfold hasP; simp only; rw [decide_eq_false hf, decide_eq_false ht, decide_eq_false hl2]; rfl⟩
            rw [decide_eq_false hl2] at h2
            clear hl2 hf ht
            go_wp2_with fail
            go_roundw
            case measure => simp [intOf]; omega
            case rel => exact ⟨k + 1, by go_num, by omega, ⟨by simp⟩, ⟨TA.out _ VV.out⟩⟩
    · have hall : l.any (hasP key) = false := by
        have h := I.out
        rwa [List.take_of_length_le (by have := N.out; omega)] at h
      have HALL := Asd.mk hall
      clear hall
      go_wp2_with fail
      go_ret
      exact ⟨by rw [HALL.out]; rfl, rfl⟩
end Go.Proofs.Ytgiajfgeplekbaa

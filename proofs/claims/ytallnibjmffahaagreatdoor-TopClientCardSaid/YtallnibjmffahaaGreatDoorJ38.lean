/- TopClient: region 43: a letter is taken out of a list. -/
import Derived.Test.YtallnibjmffahaaGreatDoorJ32
import Derived.Test.YtallnibjmffahaaGreatDoorJ33
set_option linter.unusedVariables false
set_option linter.unusedSimpArgs false
namespace Go.Proofs.YtallnibjmffahaaGreatDoor
open Go.RowKit

set_option maxHeartbeats 4000000 in
set_option maxRecDepth 100000 in
/-- Region 43: the letter kn is taken out of the list in the box lb. -/
theorem del43 {K : Act → World → Prop} {Q' : Exit → Act → World → Prop} {W : World} {lb B1 uc : Nat} {A : Option Addr} {L : List ByteArray} {kn : Nat} (hb : W.heap[lb]? = some (.cells #[.slice A L.length uc] 37 (0, 0))) (ho : W.ownsRow B1 9 1 (.slice A L.length uc) L.length (strs L)) (hkn : kn < L.length) (hl : L.length ≤ 1000) {u0 u1 u2 u3 u4 u5 u6 u7 u8 u9 u10 u11 u12 u13 u14 u15 u16 u19 u20 u21 u22 u23 u24 u25 u26 u27 u28 u29 u30 u31 u32 u33 u34 u35 u36 u37 u38 u39 u40 u41 u42 u43 u44 u45 u46 u47 u48 u49 u50 u51 u52 u53 u54 u55 u56 u57 u58 u59 u60 u61 u62 u63 u64 u65 u66 u67 u68 u69 u70 u71 u72 u73 u74 u75 u76 u77 u78 u79 u80 u81 u82 u83 u84 u85 u86 u87 u88 u89 u90 u91 u92 u93 u94 u95 u96 u97 u98 u99 u100 u101 u102 u103 u104 u105 u106 u107 u108 u109 u110 u111 u112 u113 u114 u115 u116 u117 u118 u119 u120 u121 u122 u123 u124 u125 u126 u127 u128 u129 u130 u131 u132 u133 u134 u135 u136 u137 u138 u139 u140 u141 u142 u143 u144 u145 u146 u147 u148 u149 u150 u151 u152 u153 u154 u155 u156 u157 u158 u159 u160 u161 u162 u163 u164 u165 u166 u167 u168 u169 u170 u171 u172 u173 u174 u175 u176 u177 u178 u179 u180 u181 u182 u183 u184 u185 u186 u187 u188 u189 u190 u191 u192 u193 u194 u195 u196 u197 u198 u199 u200 u201 u202 u203 u204 u205 u206 u207 u208 u209 u210 u211 u212 u213 u214 u215 u216 u217 u218 u219 u220 u221 u222 u223 u224 u225 u226 u227 u228 u229 u230 u231 u232 u233 u234 u235 u236 u237 u238 u239 u240 u241 u242 u243 u244 u245 u246 u247 u248 u249 u250 u251 u252 u253 u254 u255 u256 u257 u258 u259 u260 u261 u262 u263 u264 u265 u266 u267 u268 u269 u270 u271 u272 u273 u274 u275 u276 u277 : Value}
    (hK : ∀ (t197 t198 t199 t200 t201 t202 t203 t204 t205 t206 t207 t208 t209 t210 t211 t212 v9 : Value) (W9 WX : World), Below W.heap.size W W9 → W9.ownsRow W.heap.size 9 1 v9 (kn + (L.length - (kn + 1))) (strs (L.take kn) ++ strs (L.drop (kn + 1))) → Below (W9.setCell ⟨lb, 0, none⟩ v9).heap.size (W9.setCell ⟨lb, 0, none⟩ v9) WX → K ⟨(u0 :: u1 :: u2 :: u3 :: u4 :: u5 :: u6 :: u7 :: u8 :: u9 :: u10 :: u11 :: u12 :: u13 :: u14 :: u15 :: u16 :: (.pointer (some ⟨lb, 0, none⟩)) :: (.int .i64 kn) :: u19 :: u20 :: u21 :: u22 :: u23 :: u24 :: u25 :: u26 :: u27 :: u28 :: u29 :: u30 :: u31 :: u32 :: u33 :: u34 :: u35 :: u36 :: u37 :: u38 :: u39 :: u40 :: u41 :: u42 :: u43 :: u44 :: u45 :: u46 :: u47 :: u48 :: u49 :: u50 :: u51 :: u52 :: u53 :: u54 :: u55 :: u56 :: u57 :: u58 :: u59 :: u60 :: u61 :: u62 :: u63 :: u64 :: u65 :: u66 :: u67 :: u68 :: u69 :: u70 :: u71 :: u72 :: u73 :: u74 :: u75 :: u76 :: u77 :: u78 :: u79 :: u80 :: u81 :: u82 :: u83 :: u84 :: u85 :: u86 :: u87 :: u88 :: u89 :: u90 :: u91 :: u92 :: u93 :: u94 :: u95 :: u96 :: u97 :: u98 :: u99 :: u100 :: u101 :: u102 :: u103 :: u104 :: u105 :: u106 :: u107 :: u108 :: u109 :: u110 :: u111 :: u112 :: u113 :: u114 :: u115 :: u116 :: u117 :: u118 :: u119 :: u120 :: u121 :: u122 :: u123 :: u124 :: u125 :: u126 :: u127 :: u128 :: u129 :: u130 :: u131 :: u132 :: u133 :: u134 :: u135 :: u136 :: u137 :: u138 :: u139 :: u140 :: u141 :: u142 :: u143 :: u144 :: u145 :: u146 :: u147 :: u148 :: u149 :: u150 :: u151 :: u152 :: u153 :: u154 :: u155 :: u156 :: u157 :: u158 :: u159 :: u160 :: u161 :: u162 :: u163 :: u164 :: u165 :: u166 :: u167 :: u168 :: u169 :: u170 :: u171 :: u172 :: u173 :: u174 :: u175 :: u176 :: u177 :: u178 :: u179 :: u180 :: u181 :: u182 :: u183 :: u184 :: u185 :: u186 :: u187 :: u188 :: u189 :: u190 :: u191 :: u192 :: u193 :: u194 :: u195 :: u196 :: t197 :: t198 :: t199 :: t200 :: t201 :: t202 :: t203 :: t204 :: t205 :: t206 :: t207 :: t208 :: t209 :: t210 :: t211 :: t212 :: u213 :: u214 :: u215 :: u216 :: u217 :: u218 :: u219 :: u220 :: u221 :: u222 :: u223 :: u224 :: u225 :: u226 :: u227 :: u228 :: u229 :: u230 :: u231 :: u232 :: u233 :: u234 :: u235 :: u236 :: u237 :: u238 :: u239 :: u240 :: u241 :: u242 :: u243 :: u244 :: u245 :: u246 :: u247 :: u248 :: u249 :: u250 :: u251 :: u252 :: u253 :: u254 :: u255 :: u256 :: u257 :: u258 :: u259 :: u260 :: u261 :: u262 :: u263 :: u264 :: u265 :: u266 :: u267 :: u268 :: u269 :: u270 :: u271 :: u272 :: u273 :: u274 :: u275 :: u276 :: u277 :: List.nil).toArray, []⟩ WX) :
    Code.wp Tryz.prog (tcR 43) (Exit.then K Q') ⟨(u0 :: u1 :: u2 :: u3 :: u4 :: u5 :: u6 :: u7 :: u8 :: u9 :: u10 :: u11 :: u12 :: u13 :: u14 :: u15 :: u16 :: (.pointer (some ⟨lb, 0, none⟩)) :: (.int .i64 kn) :: u19 :: u20 :: u21 :: u22 :: u23 :: u24 :: u25 :: u26 :: u27 :: u28 :: u29 :: u30 :: u31 :: u32 :: u33 :: u34 :: u35 :: u36 :: u37 :: u38 :: u39 :: u40 :: u41 :: u42 :: u43 :: u44 :: u45 :: u46 :: u47 :: u48 :: u49 :: u50 :: u51 :: u52 :: u53 :: u54 :: u55 :: u56 :: u57 :: u58 :: u59 :: u60 :: u61 :: u62 :: u63 :: u64 :: u65 :: u66 :: u67 :: u68 :: u69 :: u70 :: u71 :: u72 :: u73 :: u74 :: u75 :: u76 :: u77 :: u78 :: u79 :: u80 :: u81 :: u82 :: u83 :: u84 :: u85 :: u86 :: u87 :: u88 :: u89 :: u90 :: u91 :: u92 :: u93 :: u94 :: u95 :: u96 :: u97 :: u98 :: u99 :: u100 :: u101 :: u102 :: u103 :: u104 :: u105 :: u106 :: u107 :: u108 :: u109 :: u110 :: u111 :: u112 :: u113 :: u114 :: u115 :: u116 :: u117 :: u118 :: u119 :: u120 :: u121 :: u122 :: u123 :: u124 :: u125 :: u126 :: u127 :: u128 :: u129 :: u130 :: u131 :: u132 :: u133 :: u134 :: u135 :: u136 :: u137 :: u138 :: u139 :: u140 :: u141 :: u142 :: u143 :: u144 :: u145 :: u146 :: u147 :: u148 :: u149 :: u150 :: u151 :: u152 :: u153 :: u154 :: u155 :: u156 :: u157 :: u158 :: u159 :: u160 :: u161 :: u162 :: u163 :: u164 :: u165 :: u166 :: u167 :: u168 :: u169 :: u170 :: u171 :: u172 :: u173 :: u174 :: u175 :: u176 :: u177 :: u178 :: u179 :: u180 :: u181 :: u182 :: u183 :: u184 :: u185 :: u186 :: u187 :: u188 :: u189 :: u190 :: u191 :: u192 :: u193 :: u194 :: u195 :: u196 :: u197 :: u198 :: u199 :: u200 :: u201 :: u202 :: u203 :: u204 :: u205 :: u206 :: u207 :: u208 :: u209 :: u210 :: u211 :: u212 :: u213 :: u214 :: u215 :: u216 :: u217 :: u218 :: u219 :: u220 :: u221 :: u222 :: u223 :: u224 :: u225 :: u226 :: u227 :: u228 :: u229 :: u230 :: u231 :: u232 :: u233 :: u234 :: u235 :: u236 :: u237 :: u238 :: u239 :: u240 :: u241 :: u242 :: u243 :: u244 :: u245 :: u246 :: u247 :: u248 :: u249 :: u250 :: u251 :: u252 :: u253 :: u254 :: u255 :: u256 :: u257 :: u258 :: u259 :: u260 :: u261 :: u262 :: u263 :: u264 :: u265 :: u266 :: u267 :: u268 :: u269 :: u270 :: u271 :: u272 :: u273 :: u274 :: u275 :: u276 :: u277 :: List.nil).toArray, []⟩ W := by
  refine wp_mono (Q := Exit.then K fun _ _ _ => False) ?_ (fun e a w hq => by cases e <;> first | exact hq | exact hq.elim)
  conv => arg 2; whnf
  have HK0 : Asd (∀ (t197 t198 t199 t200 t201 t202 t203 t204 t205 t206 t207 t208 t209 t210 t211 t212 v9 : Value) (W9 WX : World), Below W.heap.size W W9 → W9.ownsRow W.heap.size 9 1 v9 (kn + (L.length - (kn + 1))) (strs (L.take kn) ++ strs (L.drop (kn + 1))) → Below (W9.setCell ⟨lb, 0, none⟩ v9).heap.size (W9.setCell ⟨lb, 0, none⟩ v9) WX → K ⟨(u0 :: u1 :: u2 :: u3 :: u4 :: u5 :: u6 :: u7 :: u8 :: u9 :: u10 :: u11 :: u12 :: u13 :: u14 :: u15 :: u16 :: (.pointer (some ⟨lb, 0, none⟩)) :: (.int .i64 kn) :: u19 :: u20 :: u21 :: u22 :: u23 :: u24 :: u25 :: u26 :: u27 :: u28 :: u29 :: u30 :: u31 :: u32 :: u33 :: u34 :: u35 :: u36 :: u37 :: u38 :: u39 :: u40 :: u41 :: u42 :: u43 :: u44 :: u45 :: u46 :: u47 :: u48 :: u49 :: u50 :: u51 :: u52 :: u53 :: u54 :: u55 :: u56 :: u57 :: u58 :: u59 :: u60 :: u61 :: u62 :: u63 :: u64 :: u65 :: u66 :: u67 :: u68 :: u69 :: u70 :: u71 :: u72 :: u73 :: u74 :: u75 :: u76 :: u77 :: u78 :: u79 :: u80 :: u81 :: u82 :: u83 :: u84 :: u85 :: u86 :: u87 :: u88 :: u89 :: u90 :: u91 :: u92 :: u93 :: u94 :: u95 :: u96 :: u97 :: u98 :: u99 :: u100 :: u101 :: u102 :: u103 :: u104 :: u105 :: u106 :: u107 :: u108 :: u109 :: u110 :: u111 :: u112 :: u113 :: u114 :: u115 :: u116 :: u117 :: u118 :: u119 :: u120 :: u121 :: u122 :: u123 :: u124 :: u125 :: u126 :: u127 :: u128 :: u129 :: u130 :: u131 :: u132 :: u133 :: u134 :: u135 :: u136 :: u137 :: u138 :: u139 :: u140 :: u141 :: u142 :: u143 :: u144 :: u145 :: u146 :: u147 :: u148 :: u149 :: u150 :: u151 :: u152 :: u153 :: u154 :: u155 :: u156 :: u157 :: u158 :: u159 :: u160 :: u161 :: u162 :: u163 :: u164 :: u165 :: u166 :: u167 :: u168 :: u169 :: u170 :: u171 :: u172 :: u173 :: u174 :: u175 :: u176 :: u177 :: u178 :: u179 :: u180 :: u181 :: u182 :: u183 :: u184 :: u185 :: u186 :: u187 :: u188 :: u189 :: u190 :: u191 :: u192 :: u193 :: u194 :: u195 :: u196 :: t197 :: t198 :: t199 :: t200 :: t201 :: t202 :: t203 :: t204 :: t205 :: t206 :: t207 :: t208 :: t209 :: t210 :: t211 :: t212 :: u213 :: u214 :: u215 :: u216 :: u217 :: u218 :: u219 :: u220 :: u221 :: u222 :: u223 :: u224 :: u225 :: u226 :: u227 :: u228 :: u229 :: u230 :: u231 :: u232 :: u233 :: u234 :: u235 :: u236 :: u237 :: u238 :: u239 :: u240 :: u241 :: u242 :: u243 :: u244 :: u245 :: u246 :: u247 :: u248 :: u249 :: u250 :: u251 :: u252 :: u253 :: u254 :: u255 :: u256 :: u257 :: u258 :: u259 :: u260 :: u261 :: u262 :: u263 :: u264 :: u265 :: u266 :: u267 :: u268 :: u269 :: u270 :: u271 :: u272 :: u273 :: u274 :: u275 :: u276 :: u277 :: List.nil).toArray, []⟩ WX) := ⟨hK⟩
  clear hK
  obtain ⟨p, rfl⟩ := row_addr ho (by omega)
  have hcap := row_cap ho
  have U2 := Asd.mk ho
  have u0' : W.cell? ⟨lb, 0, none⟩ = some (.slice (some ⟨p, 0, none⟩) L.length uc) := (cell_of_row _ _ 0 _ _ _ hb).trans rfl
  have ubl := (Array.getElem?_eq_some_iff.1 hb).1
  have uf : W.frozen? ⟨lb, 0, none⟩ = false := by simp [World.frozen?, hb]
  clear hb ho
  have hw1 : IntKind.i64.wrap ((kn : Int) + 1) = (kn : Int) + 1 := IntWalk.i64_in _ (by omega)
  have hs1 : (0 : Int) ≤ (kn : Int) ∧ (kn : Int) ≤ (uc : Int) ∧ (kn : Int) ≤ (L.length : Int) ∧ (0 : Int) ≤ (kn : Int) + 1 ∧ (kn : Int) + 1 ≤ (uc : Int) ∧ (kn : Int) + 1 ≤ (L.length : Int) ∧ (L.length : Int) ≤ (uc : Int) := by omega
  have hs2 : kn ≤ uc ∧ kn ≤ L.length ∧ kn + 1 ≤ uc ∧ kn + 1 ≤ L.length ∧ L.length ≤ uc := by omega
  have RP : Asd (∀ X, Below W.heap.size W X → Rd 0 9 X 1 (some ⟨p, 0, none⟩) kn uc (strs (L.take kn))) := ⟨fun X h => (row_pre U2.out hkn).below h⟩
  have RS : Asd (∀ X, Below W.heap.size W X → Rd 0 9 X 1 (if uc = kn + 1 then some (⟨p, 0, none⟩ : Addr) else some ⟨p, kn + 1, none⟩) (L.length - (kn + 1)) (uc - (kn + 1)) (strs (L.drop (kn + 1)))) := ⟨fun X h => (row_suf U2.out hkn).below h⟩
  have CC : Asd (∀ X, Below W.heap.size W X → X.cell? ⟨lb, 0, none⟩ = some (.slice (some ⟨p, 0, none⟩) L.length uc) ∧ X.frozen? ⟨lb, 0, none⟩ = false ∧ lb < X.heap.size) := ⟨fun X h => ⟨(h.cell (p := ⟨lb, 0, none⟩) ubl).trans u0', (h.frozen (p := ⟨lb, 0, none⟩) ubl).trans uf, Nat.lt_of_lt_of_le ubl h.size⟩⟩
  have AL7 : Asd (Below W.heap.size W (W.alloc (.cells #[] 9))) := ⟨(Below.refl W.heap.size W).alloc (Nat.le_refl _) _⟩
  have al7 : Asd (Below W.heap.size W (W.alloc (.cells #[] 9)).drew) := ⟨AL7.out.drew⟩
  obtain ⟨a0, a1, a2⟩ := CC.out _ AL7.out
  obtain ⟨b0, b1, b2⟩ := CC.out _ al7.out
  have HK : Asd (uc = kn + 1 ∨ ¬ uc = kn + 1) := ⟨Decidable.em _⟩
  clear U2
  rcases HK.out with hck | hck
  · subst hck
    have E0 : Asd (L.length - (kn + 1) = 0) := ⟨by omega⟩
    rw [if_pos rfl, Nat.sub_self, E0.out] at RS
    have hz1 : (kn : Int) ≤ (kn : Int) + 1 := by omega
    have hz3 : ¬ ((kn : Int) + 1 < 0) := by omega
    have hz4 : ¬ ((kn : Int) < 0) := by omega
    go_region_law (first
      | (refine step_append_mine (base := 0) (own := W.heap.size) (n := 0) (m := kn) (v := .slice (some ⟨W.heap.size, 0, none⟩) 0 0) (xs := []) (ys := strs (L.take kn)) rfl (.tmp 198) (.tmp 203) 37 rfl elt_str rfl rfl (by first | exact own_dr (fresh_strs W) | exact fresh_strs W) (RP.out _ (by first | exact al7.out | exact AL7.out)) (strs_one _) (by simp only [maxLen]; omega) (by omega) (by simp) ?_
         intro v8 w8 O8' G8'
         rw [Nat.zero_add, List.nil_append] at O8'
         obtain ⟨A8, c8, rfl, _⟩ := Rd.of_own (base := 0) O8'
         have O8 := Asd.mk O8'
         have B8 : Asd (Below W.heap.size W w8) := ⟨by first | exact al7.out.grown G8' (by simp) (fun i hi => by simp [Value.ownBlock] at hi; subst hi; exact Nat.le_refl _) | exact AL7.out.grown G8' (by simp) (fun i hi => by simp [Value.ownBlock] at hi; subst hi; exact Nat.le_refl _)⟩
         obtain ⟨q0, q1, q2⟩ := CC.out _ B8.out
         clear O8' G8')
      | (refine step_append_mine (base := 0) (own := W.heap.size) (n := kn) (m := 0) (v := .slice A8 kn c8) (xs := strs (L.take kn)) (ys := strs (L.drop (kn + 1))) rfl (.tmp 204) (.tmp 210) 37 rfl elt_str rfl rfl O8.out (RS.out _ B8.out) (strs_one _) (by simp only [maxLen]; omega) (by omega) B8.out.size ?_
         intro v9 w9 O9' G9'
         obtain ⟨A9, c9, rfl, _⟩ := Rd.of_own (base := 0) O9'
         have B9 := Asd.mk (B8.out.grown G9' B8.out.size (fun i hi => (O8.out.lt i hi).1))
         have O9 : Asd (w9.ownsRow W.heap.size 9 1 (.slice A9 (kn + 0) c9) (kn + (L.length - (kn + 1))) (strs (L.take kn) ++ strs (L.drop (kn + 1)))) := ⟨by rw [E0.out]; exact O9'⟩
         obtain ⟨r0, r1, r2⟩ := CC.out _ B9.out
         clear O9' G9'))
    all_goals
      first | exact HK0.out _ _ _ _ _ _ _ _ _ _ _ _ _ _ _ _ _ _ _ B9.out O9.out (Below.refl _ _) | exact HK0.out _ _ _ _ _ _ _ _ _ _ _ _ _ _ _ _ _ _ _ B9.out O9.out (Below.refl _ _).drew
  · rw [if_neg hck] at RS
    go_region_law (first
      | (refine step_append_mine (base := 0) (own := W.heap.size) (n := 0) (m := kn) (v := .slice (some ⟨W.heap.size, 0, none⟩) 0 0) (xs := []) (ys := strs (L.take kn)) rfl (.tmp 198) (.tmp 203) 37 rfl elt_str rfl rfl (by first | exact own_dr (fresh_strs W) | exact fresh_strs W) (RP.out _ (by first | exact al7.out | exact AL7.out)) (strs_one _) (by simp only [maxLen]; omega) (by omega) (by simp) ?_
         intro v8 w8 O8' G8'
         rw [Nat.zero_add, List.nil_append] at O8'
         obtain ⟨A8, c8, rfl, _⟩ := Rd.of_own (base := 0) O8'
         have O8 := Asd.mk O8'
         have B8 : Asd (Below W.heap.size W w8) := ⟨by first | exact al7.out.grown G8' (by simp) (fun i hi => by simp [Value.ownBlock] at hi; subst hi; exact Nat.le_refl _) | exact AL7.out.grown G8' (by simp) (fun i hi => by simp [Value.ownBlock] at hi; subst hi; exact Nat.le_refl _)⟩
         obtain ⟨q0, q1, q2⟩ := CC.out _ B8.out
         clear O8' G8')
      | (refine step_append_mine (base := 0) (own := W.heap.size) (n := kn) (m := (L.length - (kn + 1))) (v := .slice A8 kn c8) (xs := strs (L.take kn)) (ys := strs (L.drop (kn + 1))) rfl (.tmp 204) (.tmp 210) 37 rfl elt_str rfl rfl O8.out (RS.out _ B8.out) (strs_one _) (by simp only [maxLen]; omega) (by omega) B8.out.size ?_
         intro v9 w9 O9' G9'
         obtain ⟨A9, c9, rfl, _⟩ := Rd.of_own (base := 0) O9'
         have B9 := Asd.mk (B8.out.grown G9' B8.out.size (fun i hi => (O8.out.lt i hi).1))
         have O9 : Asd (w9.ownsRow W.heap.size 9 1 (.slice A9 (kn + (L.length - (kn + 1))) c9) (kn + (L.length - (kn + 1))) (strs (L.take kn) ++ strs (L.drop (kn + 1)))) := ⟨by exact O9'⟩
         obtain ⟨r0, r1, r2⟩ := CC.out _ B9.out
         clear O9' G9'))
    all_goals
      first | exact HK0.out _ _ _ _ _ _ _ _ _ _ _ _ _ _ _ _ _ _ _ B9.out O9.out (Below.refl _ _) | exact HK0.out _ _ _ _ _ _ _ _ _ _ _ _ _ _ _ _ _ _ _ B9.out O9.out (Below.refl _ _).drew
end Go.Proofs.YtallnibjmffahaaGreatDoor

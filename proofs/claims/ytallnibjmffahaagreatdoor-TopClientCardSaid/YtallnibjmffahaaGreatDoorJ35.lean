/- TopClient: what follows the letters: Take. TopClient: the switch, kind 0. TopClient: the switch, kind 1. -/
import Derived.Test.YtallnibjmffahaaGreatDoorJ33
import Derived.Test.YtallnibjmffahaaGreatDoorJ34
import Derived.Deep.CutBlock
set_option linter.unusedVariables false
set_option linter.unusedSimpArgs false
namespace Go.Proofs.YtallnibjmffahaaGreatDoor
open Go.RowKit

set_option maxHeartbeats 8000000 in
set_option maxRecDepth 100000 in
theorem tail51 {Q : Exit → Act → World → Prop} {E : Env} {w wr : World} {i : Nat} {v12 v13 v14 : Value} (EO' : EnvOk E) (hi : i < 120) (hm : TPE E w i v12 v13 v14 wr) {u0 u1 u2 u3 u4 u5 u6 u8 u9 u11 u16 u17 u18 u19 u20 u21 u22 u23 u24 u25 u26 u27 u28 u29 u30 u31 u32 u33 u34 u35 u36 u37 u38 u39 u40 u41 u42 u43 u44 u45 u46 u47 u48 u49 u50 u51 u52 u53 u54 u55 u56 u57 u58 u59 u60 u61 u62 u63 u64 u65 u66 u67 u68 u69 u70 u71 u72 u73 u74 u75 u76 u77 u78 u79 u80 u81 u82 u83 u84 u85 u86 u87 u88 u89 u90 u91 u92 u93 u94 u95 u96 u97 u98 u99 u100 u101 u102 u103 u104 u105 u106 u107 u108 u109 u110 u111 u112 u113 u114 u115 u116 u117 u118 u119 u120 u121 u122 u123 u124 u125 u126 u127 u128 u129 u130 u131 u132 u133 u134 u135 u136 u137 u138 u139 u140 u141 u142 u143 u144 u145 u146 u147 u148 u149 u150 u151 u152 u153 u154 u155 u156 u157 u158 u159 u160 u161 u162 u163 u164 u165 u166 u167 u168 u169 u170 u171 u172 u173 u174 u175 u176 u177 u178 u179 u180 u181 u182 u183 u184 u185 u186 u187 u188 u189 u190 u191 u192 u193 u194 u195 u196 u197 u198 u199 u200 u201 u202 u203 u204 u205 u206 u207 u208 u209 u210 u211 u212 u213 u214 u215 u216 u217 u218 u219 u220 u221 u222 u223 u224 u225 u226 u227 u228 u229 u230 u231 u232 u233 u234 u235 u236 u237 u238 u239 u240 u241 u242 u243 u244 u245 u246 u247 u248 u249 u250 u251 u252 u253 u254 u255 u256 u257 u258 u259 u260 u261 u262 u263 u264 u265 u266 u267 u268 u269 u270 u271 u272 u273 u274 u275 u276 u277 : Value}
    (hK : ∀ (t28 t29 t245 t246 t247 t248 t249 t250 t251 t252 t253 t254 t255 t256 t257 t258 t259 t260 t261 t262 t263 t264 t265 t266 t267 t268 t269 t270 t271 t272 : Value) (W' : World), HeadS E w (i + 1) v12 v13 v14 W' → Q .normal ⟨(u0 :: u1 :: u2 :: u3 :: u4 :: u5 :: u6 :: (.pointer (some ⟨E.g, 0, none⟩)) :: u8 :: u9 :: (.pointer (some ⟨E.ub, 0, none⟩)) :: u11 :: v12 :: v13 :: v14 :: (.int .i64 i) :: u16 :: u17 :: u18 :: u19 :: u20 :: u21 :: u22 :: u23 :: u24 :: u25 :: u26 :: u27 :: t28 :: t29 :: u30 :: u31 :: u32 :: u33 :: u34 :: u35 :: u36 :: u37 :: u38 :: u39 :: u40 :: u41 :: u42 :: u43 :: u44 :: u45 :: u46 :: u47 :: u48 :: u49 :: u50 :: u51 :: u52 :: u53 :: u54 :: u55 :: u56 :: u57 :: u58 :: u59 :: u60 :: u61 :: u62 :: u63 :: u64 :: u65 :: u66 :: u67 :: u68 :: u69 :: u70 :: u71 :: u72 :: u73 :: u74 :: u75 :: u76 :: u77 :: u78 :: u79 :: u80 :: u81 :: u82 :: u83 :: u84 :: u85 :: u86 :: u87 :: u88 :: u89 :: u90 :: u91 :: u92 :: u93 :: u94 :: u95 :: u96 :: u97 :: u98 :: u99 :: u100 :: u101 :: u102 :: u103 :: u104 :: u105 :: u106 :: u107 :: u108 :: u109 :: u110 :: u111 :: u112 :: u113 :: u114 :: u115 :: u116 :: u117 :: u118 :: u119 :: u120 :: u121 :: u122 :: u123 :: u124 :: u125 :: u126 :: u127 :: u128 :: u129 :: u130 :: u131 :: u132 :: u133 :: u134 :: u135 :: u136 :: u137 :: u138 :: u139 :: u140 :: u141 :: u142 :: u143 :: u144 :: u145 :: u146 :: u147 :: u148 :: u149 :: u150 :: u151 :: u152 :: u153 :: u154 :: u155 :: u156 :: u157 :: u158 :: u159 :: u160 :: u161 :: u162 :: u163 :: u164 :: u165 :: u166 :: u167 :: u168 :: u169 :: u170 :: u171 :: u172 :: u173 :: u174 :: u175 :: u176 :: u177 :: u178 :: u179 :: u180 :: u181 :: u182 :: u183 :: u184 :: u185 :: u186 :: u187 :: u188 :: u189 :: u190 :: u191 :: u192 :: u193 :: u194 :: u195 :: u196 :: u197 :: u198 :: u199 :: u200 :: u201 :: u202 :: u203 :: u204 :: u205 :: u206 :: u207 :: u208 :: u209 :: u210 :: u211 :: u212 :: u213 :: u214 :: u215 :: u216 :: u217 :: u218 :: u219 :: u220 :: u221 :: u222 :: u223 :: u224 :: u225 :: u226 :: u227 :: u228 :: u229 :: u230 :: u231 :: u232 :: u233 :: u234 :: u235 :: u236 :: u237 :: u238 :: u239 :: u240 :: u241 :: u242 :: u243 :: u244 :: t245 :: t246 :: t247 :: t248 :: t249 :: t250 :: t251 :: t252 :: t253 :: t254 :: t255 :: t256 :: t257 :: t258 :: t259 :: t260 :: t261 :: t262 :: t263 :: t264 :: t265 :: t266 :: t267 :: t268 :: t269 :: t270 :: t271 :: t272 :: u273 :: u274 :: u275 :: u276 :: u277 :: List.nil).toArray, []⟩ W') :
    Code.wp Tryz.prog (tcT 51) Q ⟨(u0 :: u1 :: u2 :: u3 :: u4 :: u5 :: u6 :: (.pointer (some ⟨E.g, 0, none⟩)) :: u8 :: u9 :: (.pointer (some ⟨E.ub, 0, none⟩)) :: u11 :: v12 :: v13 :: v14 :: (.int .i64 i) :: u16 :: u17 :: u18 :: u19 :: u20 :: u21 :: u22 :: u23 :: u24 :: u25 :: u26 :: u27 :: u28 :: u29 :: u30 :: u31 :: u32 :: u33 :: u34 :: u35 :: u36 :: u37 :: u38 :: u39 :: u40 :: u41 :: u42 :: u43 :: u44 :: u45 :: u46 :: u47 :: u48 :: u49 :: u50 :: u51 :: u52 :: u53 :: u54 :: u55 :: u56 :: u57 :: u58 :: u59 :: u60 :: u61 :: u62 :: u63 :: u64 :: u65 :: u66 :: u67 :: u68 :: u69 :: u70 :: u71 :: u72 :: u73 :: u74 :: u75 :: u76 :: u77 :: u78 :: u79 :: u80 :: u81 :: u82 :: u83 :: u84 :: u85 :: u86 :: u87 :: u88 :: u89 :: u90 :: u91 :: u92 :: u93 :: u94 :: u95 :: u96 :: u97 :: u98 :: u99 :: u100 :: u101 :: u102 :: u103 :: u104 :: u105 :: u106 :: u107 :: u108 :: u109 :: u110 :: u111 :: u112 :: u113 :: u114 :: u115 :: u116 :: u117 :: u118 :: u119 :: u120 :: u121 :: u122 :: u123 :: u124 :: u125 :: u126 :: u127 :: u128 :: u129 :: u130 :: u131 :: u132 :: u133 :: u134 :: u135 :: u136 :: u137 :: u138 :: u139 :: u140 :: u141 :: u142 :: u143 :: u144 :: u145 :: u146 :: u147 :: u148 :: u149 :: u150 :: u151 :: u152 :: u153 :: u154 :: u155 :: u156 :: u157 :: u158 :: u159 :: u160 :: u161 :: u162 :: u163 :: u164 :: u165 :: u166 :: u167 :: u168 :: u169 :: u170 :: u171 :: u172 :: u173 :: u174 :: u175 :: u176 :: u177 :: u178 :: u179 :: u180 :: u181 :: u182 :: u183 :: u184 :: u185 :: u186 :: u187 :: u188 :: u189 :: u190 :: u191 :: u192 :: u193 :: u194 :: u195 :: u196 :: u197 :: u198 :: u199 :: u200 :: u201 :: u202 :: u203 :: u204 :: u205 :: u206 :: u207 :: u208 :: u209 :: u210 :: u211 :: u212 :: u213 :: u214 :: u215 :: u216 :: u217 :: u218 :: u219 :: u220 :: u221 :: u222 :: u223 :: u224 :: u225 :: u226 :: u227 :: u228 :: u229 :: u230 :: u231 :: u232 :: u233 :: u234 :: u235 :: u236 :: u237 :: u238 :: u239 :: u240 :: u241 :: u242 :: u243 :: u244 :: u245 :: u246 :: u247 :: u248 :: u249 :: u250 :: u251 :: u252 :: u253 :: u254 :: u255 :: u256 :: u257 :: u258 :: u259 :: u260 :: u261 :: u262 :: u263 :: u264 :: u265 :: u266 :: u267 :: u268 :: u269 :: u270 :: u271 :: u272 :: u273 :: u274 :: u275 :: u276 :: u277 :: List.nil).toArray, []⟩ wr := by
  obtain ⟨K, HKE⟩ : ∃ K : Act → World → Prop, Asd (K = fun a w => Q .normal a w) := ⟨_, ⟨rfl⟩⟩
  refine wp_mono (Q := Exit.then K fun _ _ _ => False) ?_ (fun e a w hq => by cases e <;> first | (have h := hq; simp only [Exit.then, HKE.out] at h; exact h) | exact hq.elim)
  have HK0 : Asd (∀ (t28 t29 t245 t246 t247 t248 t249 t250 t251 t252 t253 t254 t255 t256 t257 t258 t259 t260 t261 t262 t263 t264 t265 t266 t267 t268 t269 t270 t271 t272 : Value) (W' : World), HeadS E w (i + 1) v12 v13 v14 W' → K ⟨(u0 :: u1 :: u2 :: u3 :: u4 :: u5 :: u6 :: (.pointer (some ⟨E.g, 0, none⟩)) :: u8 :: u9 :: (.pointer (some ⟨E.ub, 0, none⟩)) :: u11 :: v12 :: v13 :: v14 :: (.int .i64 i) :: u16 :: u17 :: u18 :: u19 :: u20 :: u21 :: u22 :: u23 :: u24 :: u25 :: u26 :: u27 :: t28 :: t29 :: u30 :: u31 :: u32 :: u33 :: u34 :: u35 :: u36 :: u37 :: u38 :: u39 :: u40 :: u41 :: u42 :: u43 :: u44 :: u45 :: u46 :: u47 :: u48 :: u49 :: u50 :: u51 :: u52 :: u53 :: u54 :: u55 :: u56 :: u57 :: u58 :: u59 :: u60 :: u61 :: u62 :: u63 :: u64 :: u65 :: u66 :: u67 :: u68 :: u69 :: u70 :: u71 :: u72 :: u73 :: u74 :: u75 :: u76 :: u77 :: u78 :: u79 :: u80 :: u81 :: u82 :: u83 :: u84 :: u85 :: u86 :: u87 :: u88 :: u89 :: u90 :: u91 :: u92 :: u93 :: u94 :: u95 :: u96 :: u97 :: u98 :: u99 :: u100 :: u101 :: u102 :: u103 :: u104 :: u105 :: u106 :: u107 :: u108 :: u109 :: u110 :: u111 :: u112 :: u113 :: u114 :: u115 :: u116 :: u117 :: u118 :: u119 :: u120 :: u121 :: u122 :: u123 :: u124 :: u125 :: u126 :: u127 :: u128 :: u129 :: u130 :: u131 :: u132 :: u133 :: u134 :: u135 :: u136 :: u137 :: u138 :: u139 :: u140 :: u141 :: u142 :: u143 :: u144 :: u145 :: u146 :: u147 :: u148 :: u149 :: u150 :: u151 :: u152 :: u153 :: u154 :: u155 :: u156 :: u157 :: u158 :: u159 :: u160 :: u161 :: u162 :: u163 :: u164 :: u165 :: u166 :: u167 :: u168 :: u169 :: u170 :: u171 :: u172 :: u173 :: u174 :: u175 :: u176 :: u177 :: u178 :: u179 :: u180 :: u181 :: u182 :: u183 :: u184 :: u185 :: u186 :: u187 :: u188 :: u189 :: u190 :: u191 :: u192 :: u193 :: u194 :: u195 :: u196 :: u197 :: u198 :: u199 :: u200 :: u201 :: u202 :: u203 :: u204 :: u205 :: u206 :: u207 :: u208 :: u209 :: u210 :: u211 :: u212 :: u213 :: u214 :: u215 :: u216 :: u217 :: u218 :: u219 :: u220 :: u221 :: u222 :: u223 :: u224 :: u225 :: u226 :: u227 :: u228 :: u229 :: u230 :: u231 :: u232 :: u233 :: u234 :: u235 :: u236 :: u237 :: u238 :: u239 :: u240 :: u241 :: u242 :: u243 :: u244 :: t245 :: t246 :: t247 :: t248 :: t249 :: t250 :: t251 :: t252 :: t253 :: t254 :: t255 :: t256 :: t257 :: t258 :: t259 :: t260 :: t261 :: t262 :: t263 :: t264 :: t265 :: t266 :: t267 :: t268 :: t269 :: t270 :: t271 :: t272 :: u273 :: u274 :: u275 :: u276 :: u277 :: List.nil).toArray, []⟩ W') := ⟨by rw [HKE.out]; exact hK⟩
  have EO := Asd.mk EO'
  clear hK EO' HKE
  obtain ⟨now', hs', os', ups', dns', reps', rows', x', rq', s', rfl, hm'⟩ := hm
  have TPX := Asd.mk hm'
  clear hm'
  conv => arg 2; whnf
  cases hth : x'.there with
  | false =>
    have TK := Asd.mk (Take_no TPX.out.mem.mc.at_ hth)
    have HTH := Asd.mk hth
    clear hth
    go_wp2_with fail
    refine TK.out.mono ?_
    rintro e w9 ⟨rfl, hb9⟩
    have FIN := Asd.mk (TPX.out.no (hb9.alloc hb9.size (.cells #[.int .i64 0, .int .i64 0, .slice none 0 0, .int .i64 0, .int .i64 0] 51)) HTH.out)
    clear hb9 TK TPX
    go_wp2_with fail
    apply HK0.out
    exact FIN.out
  | true =>
    obtain ⟨C, hC⟩ : ∃ C : World → Prop, C = (fun w' => CliAt w' E.g E.k { x' with waits := false, there := false } ∧ wr.grownBy w' (some E.g)) := ⟨_, rfl⟩
    have TK' : Calls Tryz.prog 14 #[.pointer (some ⟨E.g, 0, none⟩)] wr fun e w' => e = .returned (.tuple #[.agg #[.int .i64 x'.pcl, .int .i64 x'.psq, .slice x'.pA x'.pn x'.pc, .int .i64 x'.pat, .int .i64 x'.pcode], .int .i64 0]) ∧ C w' := by
      rw [hC]
      exact Take_yes TPX.out.mem.mc.at_ hth
    have HC := Asd.mk hC
    clear hC
    have HTH := Asd.mk hth
    clear hth
    by_cases h241 : x'.pcode = 241
    · simp only [h241] at TK'
      have TK := Asd.mk TK'
      clear TK' h241
      go_wp2_with fail
      refine TK.out.mono ?_
      rintro e w9 ⟨rfl, hcw⟩
      rw [HC.out] at hcw
      obtain ⟨hc9, hg9⟩ := hcw
      have FIN := Asd.mk (fun o => TPX.out.drop hg9 hc9 ((Below.refl w9.heap.size w9).alloc (Nat.le_refl _) o))
      clear hc9 hg9 TK TPX
      go_wp2_with fail
      apply HK0.out
      exact FIN.out _
    · obtain ⟨r1, r2, r3, r4⟩ := TPX.out.rep HTH.out
      have e1 : x'.pcl = 7 := r3.2
      have e2 : x'.psq = ((hs'.length - 1 : Nat) : Int) + 1 := by
        have : x'.psq = hs'.length := r2
        omega
      have hln := TPX.out.pi.len
      obtain ⟨hB, hC, hv, _⟩ : ∃ hB hC, v12 = .slice (some ⟨hB, 0, none⟩) hs'.length hC ∧ True := by
        rcases TPX.out.mem.mh.own.2 with ⟨e, e0⟩ | ⟨g, cap, cur, e, _⟩
        · exact absurd e0 (by omega)
        · exact ⟨g, cap, e, trivial⟩
      subst hv
      have FT := Asd.mk (fun {W9 W8 : World} hg9 hc9 hb8 => TPX.out.tell (W' := W9) (W8 := W8) hg9 hc9 hb8 HTH.out h241 rfl)
      have MH := Asd.mk (fun {W9 W8 : World} hg9 hc9 (hb8 : Below W9.heap.size W9 W8) => ((TPX.out.take (W' := W9) hg9 hc9).1.below hb8 EO.out.le).mh.own)
      have EQ := Asd.mk (And.intro e1 e2)
      simp only [e1, e2] at TK'
      have TK := Asd.mk TK'
      have hne1 : (x'.pcode == 241) = false := beq_eq_false_iff_ne.2 h241
      have hne2 : (x'.pcode != 241) = true := bne_iff_ne.2 h241
      have hk1 : hs'.length - 1 < hs'.length := by omega
      have hk2 : hs'.length ≤ 1000 := by omega
      clear TK' r1 r2 r3 r4 e1 e2
      go_wp2_with fail
      refine TK.out.mono ?_
      rintro e w9 ⟨rfl, hcw⟩
      rw [HC.out] at hcw
      obtain ⟨hc9, hg9⟩ := hcw
      have al9 := (Below.refl w9.heap.size w9).alloc (Nat.le_refl _) (.cells #[.int .i64 7, .int .i64 (((hs'.length - 1 : Nat) : Int) + 1), .slice x'.pA x'.pn x'.pc, .int .i64 x'.pat, .int .i64 x'.pcode] 51)
      have FT9 := Asd.mk (FT.out hg9 hc9 al9)
      have MH9 := Asd.mk (MH.out hg9 hc9 al9)
      clear hc9 hg9 TK TPX FT MH al9
      go_upto_region 53 with fail
      refine tell53 (heap_alloc_new w9 _) MH9.out hk1 hk2 hi ?_
      intro t258 t259 t260 t261 t262 t263 t264 t265 t266 t267 t268 t269 t270 t271 t272 WX hbx
      have FIN : Asd (HeadS E w (i + 1) (.slice (some ⟨hB, 0, none⟩) hs'.length hC) v13 (.int .i64 now') WX) := ⟨by
        have h := FT9.out
        simp only [EQ.out.2] at h
        exact h.next EO.out.le hbx⟩
      clear hbx FT9 MH9
      go_wp2_with fail
      apply HK0.out
      exact FIN.out
end Go.Proofs.YtallnibjmffahaaGreatDoor

set_option linter.unusedVariables false
set_option linter.unusedSimpArgs false
namespace Go.Proofs.YtallnibjmffahaaGreatDoor
open Go.RowKit

set_option maxHeartbeats 8000000 in
set_option maxRecDepth 100000 in
theorem arm0 {K : Act → World → Prop} {Q' : Exit → Act → World → Prop} {E : Env} {w W : World} {i : Nat} {v12 v13 : Value} {now : Int} {hs : List CallR} {os : List Int} {ups dns : List ByteArray} {reps : List RepR} {rows : List Rw} {x : CliR} {rq : List OpR} {s : ByteArray} (HPx : HP E w i W v12 v13 now hs os ups dns reps rows x rq s) {y : StepR} {xp : Nat} (SE : StepIn E.B0 W y) (y1 : W.cell? ⟨xp, 2, none⟩ = some (.slice y.oA y.on y.oc)) (xl2 : xp < W.heap.size) (B1R : E.B1 ≤ xp) {u0 u1 u2 u3 u4 u6 u8 u17 u18 u20 u21 u22 u23 u24 u25 u26 u27 u28 u29 u30 u31 u32 u33 u34 u35 u36 u37 u38 u39 u40 u41 u42 u43 u44 u45 u46 u47 u48 u49 u50 u51 u52 u53 u54 u55 u56 u57 u58 u59 u60 u61 u62 u63 u64 u65 u66 u67 u68 u69 u70 u71 u72 u73 u74 u75 u76 u77 u78 u79 u80 u81 u82 u83 u84 u85 u86 u87 u88 u89 u90 u91 u92 u93 u94 u95 u96 u97 u98 u99 u100 u101 u102 u103 u104 u105 u106 u107 u108 u109 u110 u111 u112 u113 u114 u115 u116 u117 u118 u119 u120 u121 u122 u123 u124 u125 u126 u127 u128 u129 u130 u131 u132 u133 u134 u135 u136 u137 u138 u139 u140 u141 u142 u143 u144 u145 u146 u147 u148 u149 u150 u151 u152 u153 u154 u155 u156 u157 u158 u159 u160 u161 u162 u163 u164 u165 u166 u167 u168 u169 u170 u171 u172 u173 u174 u175 u176 u177 u178 u179 u180 u181 u182 u183 u184 u185 u186 u187 u188 u189 u190 u191 u192 u193 u194 u195 u196 u197 u198 u199 u200 u201 u202 u203 u204 u205 u206 u207 u208 u209 u210 u211 u212 u213 u214 u215 u216 u217 u218 u219 u220 u221 u222 u223 u224 u225 u226 u227 u228 u229 u230 u231 u232 u233 u234 u235 u236 u237 u238 u239 u240 u241 u242 u243 u244 u245 u246 u247 u248 u249 u250 u251 u252 u253 u254 u255 u256 u257 u258 u259 u260 u261 u262 u263 u264 u265 u266 u267 u268 u269 u270 u271 u272 u273 u274 u275 u276 u277 : Value}
    (hK : (∀ (t12 t13 t14 t20 t21 t22 t23 t24 t25 t100 t101 t102 t103 t104 t105 t106 t107 t108 t109 t110 t111 t112 t113 t114 t115 t116 t117 t118 t119 t120 t121 t122 t123 t124 t125 t126 t127 t128 t129 t130 t131 t132 t133 t134 t135 t136 t137 t138 t139 t140 t141 t142 t143 t144 t145 t146 t147 t148 t149 t150 t151 t152 t153 t154 t155 t156 t157 t158 t159 t160 t161 t162 t163 t164 t165 t166 t167 t168 t169 t170 t171 t172 t173 t174 t175 t176 t177 t178 t179 t180 t181 t182 t183 t184 t185 t186 t187 t188 t189 t190 t191 t192 t193 t194 t195 t196 t197 t198 t199 t200 t201 t202 t203 t204 t205 t206 t207 t208 t209 t210 t211 t212 t213 t214 t215 t216 t217 t218 t219 t220 t221 t222 t223 t224 t225 t226 t227 t228 t229 t230 t231 : Value) (W' : World), MidS E w i t12 t13 t14 W' → K ⟨(u0 :: u1 :: u2 :: u3 :: u4 :: (.pointer (some ⟨E.bb, 0, none⟩)) :: u6 :: (.pointer (some ⟨E.g, 0, none⟩)) :: u8 :: (.pointer (some ⟨E.tg, 0, none⟩)) :: (.pointer (some ⟨E.ub, 0, none⟩)) :: (.pointer (some ⟨E.db, 0, none⟩)) :: t12 :: t13 :: t14 :: (.int .i64 i) :: (.pointer (some ⟨xp, 0, none⟩)) :: u17 :: u18 :: (.int .i64 0) :: t20 :: t21 :: t22 :: t23 :: t24 :: t25 :: u26 :: u27 :: u28 :: u29 :: u30 :: u31 :: u32 :: u33 :: u34 :: u35 :: u36 :: u37 :: u38 :: u39 :: u40 :: u41 :: u42 :: u43 :: u44 :: u45 :: u46 :: u47 :: u48 :: u49 :: u50 :: u51 :: u52 :: u53 :: u54 :: u55 :: u56 :: u57 :: u58 :: u59 :: u60 :: u61 :: u62 :: u63 :: u64 :: u65 :: u66 :: u67 :: u68 :: u69 :: u70 :: u71 :: u72 :: u73 :: u74 :: u75 :: u76 :: u77 :: u78 :: u79 :: u80 :: u81 :: u82 :: u83 :: u84 :: u85 :: u86 :: u87 :: u88 :: u89 :: u90 :: u91 :: u92 :: u93 :: u94 :: u95 :: u96 :: u97 :: u98 :: u99 :: t100 :: t101 :: t102 :: t103 :: t104 :: t105 :: t106 :: t107 :: t108 :: t109 :: t110 :: t111 :: t112 :: t113 :: t114 :: t115 :: t116 :: t117 :: t118 :: t119 :: t120 :: t121 :: t122 :: t123 :: t124 :: t125 :: t126 :: t127 :: t128 :: t129 :: t130 :: t131 :: t132 :: t133 :: t134 :: t135 :: t136 :: t137 :: t138 :: t139 :: t140 :: t141 :: t142 :: t143 :: t144 :: t145 :: t146 :: t147 :: t148 :: t149 :: t150 :: t151 :: t152 :: t153 :: t154 :: t155 :: t156 :: t157 :: t158 :: t159 :: t160 :: t161 :: t162 :: t163 :: t164 :: t165 :: t166 :: t167 :: t168 :: t169 :: t170 :: t171 :: t172 :: t173 :: t174 :: t175 :: t176 :: t177 :: t178 :: t179 :: t180 :: t181 :: t182 :: t183 :: t184 :: t185 :: t186 :: t187 :: t188 :: t189 :: t190 :: t191 :: t192 :: t193 :: t194 :: t195 :: t196 :: t197 :: t198 :: t199 :: t200 :: t201 :: t202 :: t203 :: t204 :: t205 :: t206 :: t207 :: t208 :: t209 :: t210 :: t211 :: t212 :: t213 :: t214 :: t215 :: t216 :: t217 :: t218 :: t219 :: t220 :: t221 :: t222 :: t223 :: t224 :: t225 :: t226 :: t227 :: t228 :: t229 :: t230 :: t231 :: u232 :: u233 :: u234 :: u235 :: u236 :: u237 :: u238 :: u239 :: u240 :: u241 :: u242 :: u243 :: u244 :: u245 :: u246 :: u247 :: u248 :: u249 :: u250 :: u251 :: u252 :: u253 :: u254 :: u255 :: u256 :: u257 :: u258 :: u259 :: u260 :: u261 :: u262 :: u263 :: u264 :: u265 :: u266 :: u267 :: u268 :: u269 :: u270 :: u271 :: u272 :: u273 :: u274 :: u275 :: u276 :: u277 :: List.nil).toArray, []⟩ W')) :
    Code.wp Tryz.prog (tcB 2) (Exit.then K Q') ⟨(u0 :: u1 :: u2 :: u3 :: u4 :: (.pointer (some ⟨E.bb, 0, none⟩)) :: u6 :: (.pointer (some ⟨E.g, 0, none⟩)) :: u8 :: (.pointer (some ⟨E.tg, 0, none⟩)) :: (.pointer (some ⟨E.ub, 0, none⟩)) :: (.pointer (some ⟨E.db, 0, none⟩)) :: v12 :: v13 :: (.int .i64 now) :: (.int .i64 i) :: (.pointer (some ⟨xp, 0, none⟩)) :: u17 :: u18 :: (.int .i64 0) :: u20 :: u21 :: u22 :: u23 :: u24 :: u25 :: u26 :: u27 :: u28 :: u29 :: u30 :: u31 :: u32 :: u33 :: u34 :: u35 :: u36 :: u37 :: u38 :: u39 :: u40 :: u41 :: u42 :: u43 :: u44 :: u45 :: u46 :: u47 :: u48 :: u49 :: u50 :: u51 :: u52 :: u53 :: u54 :: u55 :: u56 :: u57 :: u58 :: u59 :: u60 :: u61 :: u62 :: u63 :: u64 :: u65 :: u66 :: u67 :: u68 :: u69 :: u70 :: u71 :: u72 :: u73 :: u74 :: u75 :: u76 :: u77 :: u78 :: u79 :: u80 :: u81 :: u82 :: u83 :: u84 :: u85 :: u86 :: u87 :: u88 :: u89 :: u90 :: u91 :: u92 :: u93 :: u94 :: u95 :: u96 :: u97 :: u98 :: u99 :: u100 :: u101 :: u102 :: u103 :: u104 :: u105 :: u106 :: u107 :: u108 :: u109 :: u110 :: u111 :: u112 :: u113 :: u114 :: u115 :: u116 :: u117 :: u118 :: u119 :: u120 :: u121 :: u122 :: u123 :: u124 :: u125 :: u126 :: u127 :: u128 :: u129 :: u130 :: u131 :: u132 :: u133 :: u134 :: u135 :: u136 :: u137 :: u138 :: u139 :: u140 :: u141 :: u142 :: u143 :: u144 :: u145 :: u146 :: u147 :: u148 :: u149 :: u150 :: u151 :: u152 :: u153 :: u154 :: u155 :: u156 :: u157 :: u158 :: u159 :: u160 :: u161 :: u162 :: u163 :: u164 :: u165 :: u166 :: u167 :: u168 :: u169 :: u170 :: u171 :: u172 :: u173 :: u174 :: u175 :: u176 :: u177 :: u178 :: u179 :: u180 :: u181 :: u182 :: u183 :: u184 :: u185 :: u186 :: u187 :: u188 :: u189 :: u190 :: u191 :: u192 :: u193 :: u194 :: u195 :: u196 :: u197 :: u198 :: u199 :: u200 :: u201 :: u202 :: u203 :: u204 :: u205 :: u206 :: u207 :: u208 :: u209 :: u210 :: u211 :: u212 :: u213 :: u214 :: u215 :: u216 :: u217 :: u218 :: u219 :: u220 :: u221 :: u222 :: u223 :: u224 :: u225 :: u226 :: u227 :: u228 :: u229 :: u230 :: u231 :: u232 :: u233 :: u234 :: u235 :: u236 :: u237 :: u238 :: u239 :: u240 :: u241 :: u242 :: u243 :: u244 :: u245 :: u246 :: u247 :: u248 :: u249 :: u250 :: u251 :: u252 :: u253 :: u254 :: u255 :: u256 :: u257 :: u258 :: u259 :: u260 :: u261 :: u262 :: u263 :: u264 :: u265 :: u266 :: u267 :: u268 :: u269 :: u270 :: u271 :: u272 :: u273 :: u274 :: u275 :: u276 :: u277 :: List.nil).toArray, []⟩ W := by
  refine wp_mono (Q := Exit.then K fun _ _ _ => False) ?_ (fun e a w hq => by cases e <;> first | exact hq | exact hq.elim)
  have HK0 := Asd.mk hK
  clear hK
  have HPx := Asd.mk HPx
  have SE := Asd.mk SE
  have AS := Asd.mk (Ask_calls (base := E.B0) HPx.out.mem.mc.at_ (HPx.out.mem.mc.one.one E.B0) now HPx.out.cp.now0.2 (by have := HPx.out.now1; have := HPx.out.i1; omega) HPx.out.xok HPx.out.eo.ok HPx.out.there (by rw [HPx.out.cp.seq]; have := HPx.out.pi.len; have := HPx.out.i1; omega) SE.out.rdo SE.out.fits SE.out.obig HPx.out.leb HPx.out.eo.g0)
  obtain ⟨qA, qc, rfl, _⟩ := Rd.of_own (base := E.B0) HPx.out.mem.mh.own
  have hi2 := HPx.out.i1
  conv => arg 2; whnf
  go_wp2_with fail
  refine AS.out.mono ?_
  rintro e w7 ⟨hg7, ⟨ec, hec, rfl, hc7⟩ | ⟨rfl, hwt, hrq, hmy, s7, rA, rc, oA, oc, hen, hsm, hc7, hr7, ho7⟩⟩
  · have he1 : (ec == 0) = false := by simpa using hec
    have FIN := Asd.mk (HPx.out.tick1 hg7 (.inl rfl) hc7)
    clear hg7 hec hc7 AS
    go_wp2_with fail
    apply HK0.out
    exact FIN.out
  · have hEg : xp ≠ E.g := by have h1 := HPx.out.eo.g1; omega
    have k7 := HPx.out.mem.cliK HPx.out.eo hg7
    have y1' : w7.cell? ⟨xp, 2, none⟩ = some (.slice y.oA y.on y.oc) := (World.cell?_of_block (hg7.block _ xl2 (fun e => hEg (by injection e)))).trans y1
    have xl7 := Nat.lt_of_lt_of_le xl2 hg7.size
    have RO7 := Asd.mk (k7.rd SE.out.rdo rfl (Nat.le_refl _))
    have OW7 := Asd.mk (fun W (hW : Below w7.heap.size w7 W) => (k7.own HPx.out.mem.mh.own rfl).kept (gb_below hW none) (by cases (Value.slice qA hs.length qc).ownBlock <;> simp))
    have LB1 : Asd (E.B1 ≤ w7.heap.size) := ⟨Nat.le_trans HPx.out.mem.b1 hg7.size⟩
    have ASK := Asd.mk (fun {W8 W9} {A8} {c8} {v'} {o} => HPx.out.ask2 (W8 := W8) (W9 := W9) (A8 := A8) (c8 := c8) (v' := v') (o := o) hg7 hrq hmy hen hsm hc7 hr7 SE.out.fits ho7)
    have hob : y.on ≤ 140737488351232 := by have := SE.out.obig; omega
    have hob2 := SE.out.obig
    have hln : hs.length ≤ 1000 := by have := HPx.out.pi.len; omega
    have hw15 : IntKind.i64.wrap ((i : Int) + 1) = (i : Int) + 1 := IntWalk.i64_in _ (by omega)
    have tk1 : True := trivial
    have tk2 : True := trivial
    clear hg7 hwt hrq hmy hen hsm hc7 hr7 ho7 k7 y1 xl2 hEg AS
    go_wp2_with (first
      | (at_builtin; have _t := tk1; refine wpList_append_mine (base := E.B0) (own := w7.heap.size) (v := .slice (some ⟨w7.heap.size, 0, none⟩) 0 0) (n := 0) (m := y.on) (xs := []) (ys := opCells y.ops) rfl (.tmp 117) (.tmp 119) 39 rfl elt_opN rfl rfl (fresh_ops w7) (RO7.out.alloc _) (ops_one _) (by unfold maxLen; omega) (by omega) (by simp) ?_; intro v8 w8 O8' G8'; rw [Nat.zero_add, List.nil_append] at O8'; obtain ⟨A8, c8, rfl, r8⟩ := Rd.of_own (base := E.B0) O8'; have R8 := Asd.mk r8; have B8 := Asd.mk (((Below.refl w7.heap.size w7).alloc (Nat.le_refl _) (.cells #[] 79)).grown G8' (by simp) (fun k hk => by simp [Value.ownBlock] at hk; subst hk; exact Nat.le_refl _)); clear tk1 _t O8' G8' r8)
      | (at_builtin; have _t := tk2; refine wpList_append_mine (base := E.B0) (own := E.B1) (v := .slice qA hs.length qc) (n := hs.length) (m := 1) (xs := hs.flatMap CallR.enc) (ys := (newC i (x.seq + 1) A8 y.on c8 y.ops).enc) rfl (.tmp 113) (.tmp 123) 38 rfl elt_call rfl rfl ((OW7.out _ B8.out).alloc _) (Rd.new_ rfl rfl) (fun u hu => call_one [newC i (x.seq + 1) A8 y.on c8 y.ops] u (by simpa using hu)) (by unfold maxLen; omega) (by omega) (by have := LB1.out; have := B8.out.size; simp; omega) ?_; intro v9 w9 O9' G9'; have FIN := Asd.mk (ASK.out B8.out R8.out (by omega) O9' G9'); clear tk2 _t O9' G9'))
    apply HK0.out
    exact FIN.out
end Go.Proofs.YtallnibjmffahaaGreatDoor

set_option linter.unusedVariables false
set_option linter.unusedSimpArgs false
namespace Go.Proofs.YtallnibjmffahaaGreatDoor
open Go.RowKit

set_option maxHeartbeats 8000000 in
set_option maxRecDepth 100000 in
theorem arm1 {K : Act → World → Prop} {Q' : Exit → Act → World → Prop} {E : Env} {w W : World} {i : Nat} {v12 v13 : Value} {now : Int} {hs : List CallR} {os : List Int} {ups dns : List ByteArray} {reps : List RepR} {rows : List Rw} {x : CliR} {rq : List OpR} {s : ByteArray} (HPx : HP E w i W v12 v13 now hs os ups dns reps rows x rq s)  {u0 u1 u2 u3 u4 u6 u8 u16 u17 u18 u20 u21 u22 u23 u24 u25 u26 u27 u28 u29 u30 u31 u32 u33 u34 u35 u36 u37 u38 u39 u40 u41 u42 u43 u44 u45 u46 u47 u48 u49 u50 u51 u52 u53 u54 u55 u56 u57 u58 u59 u60 u61 u62 u63 u64 u65 u66 u67 u68 u69 u70 u71 u72 u73 u74 u75 u76 u77 u78 u79 u80 u81 u82 u83 u84 u85 u86 u87 u88 u89 u90 u91 u92 u93 u94 u95 u96 u97 u98 u99 u100 u101 u102 u103 u104 u105 u106 u107 u108 u109 u110 u111 u112 u113 u114 u115 u116 u117 u118 u119 u120 u121 u122 u123 u124 u125 u126 u127 u128 u129 u130 u131 u132 u133 u134 u135 u136 u137 u138 u139 u140 u141 u142 u143 u144 u145 u146 u147 u148 u149 u150 u151 u152 u153 u154 u155 u156 u157 u158 u159 u160 u161 u162 u163 u164 u165 u166 u167 u168 u169 u170 u171 u172 u173 u174 u175 u176 u177 u178 u179 u180 u181 u182 u183 u184 u185 u186 u187 u188 u189 u190 u191 u192 u193 u194 u195 u196 u197 u198 u199 u200 u201 u202 u203 u204 u205 u206 u207 u208 u209 u210 u211 u212 u213 u214 u215 u216 u217 u218 u219 u220 u221 u222 u223 u224 u225 u226 u227 u228 u229 u230 u231 u232 u233 u234 u235 u236 u237 u238 u239 u240 u241 u242 u243 u244 u245 u246 u247 u248 u249 u250 u251 u252 u253 u254 u255 u256 u257 u258 u259 u260 u261 u262 u263 u264 u265 u266 u267 u268 u269 u270 u271 u272 u273 u274 u275 u276 u277 : Value}
    (hK : (∀ (t12 t13 t14 t20 t21 t22 t23 t24 t25 t100 t101 t102 t103 t104 t105 t106 t107 t108 t109 t110 t111 t112 t113 t114 t115 t116 t117 t118 t119 t120 t121 t122 t123 t124 t125 t126 t127 t128 t129 t130 t131 t132 t133 t134 t135 t136 t137 t138 t139 t140 t141 t142 t143 t144 t145 t146 t147 t148 t149 t150 t151 t152 t153 t154 t155 t156 t157 t158 t159 t160 t161 t162 t163 t164 t165 t166 t167 t168 t169 t170 t171 t172 t173 t174 t175 t176 t177 t178 t179 t180 t181 t182 t183 t184 t185 t186 t187 t188 t189 t190 t191 t192 t193 t194 t195 t196 t197 t198 t199 t200 t201 t202 t203 t204 t205 t206 t207 t208 t209 t210 t211 t212 t213 t214 t215 t216 t217 t218 t219 t220 t221 t222 t223 t224 t225 t226 t227 t228 t229 t230 t231 : Value) (W' : World), MidS E w i t12 t13 t14 W' → K ⟨(u0 :: u1 :: u2 :: u3 :: u4 :: (.pointer (some ⟨E.bb, 0, none⟩)) :: u6 :: (.pointer (some ⟨E.g, 0, none⟩)) :: u8 :: (.pointer (some ⟨E.tg, 0, none⟩)) :: (.pointer (some ⟨E.ub, 0, none⟩)) :: (.pointer (some ⟨E.db, 0, none⟩)) :: t12 :: t13 :: t14 :: (.int .i64 i) :: u16 :: u17 :: u18 :: (.int .i64 1) :: t20 :: t21 :: t22 :: t23 :: t24 :: t25 :: u26 :: u27 :: u28 :: u29 :: u30 :: u31 :: u32 :: u33 :: u34 :: u35 :: u36 :: u37 :: u38 :: u39 :: u40 :: u41 :: u42 :: u43 :: u44 :: u45 :: u46 :: u47 :: u48 :: u49 :: u50 :: u51 :: u52 :: u53 :: u54 :: u55 :: u56 :: u57 :: u58 :: u59 :: u60 :: u61 :: u62 :: u63 :: u64 :: u65 :: u66 :: u67 :: u68 :: u69 :: u70 :: u71 :: u72 :: u73 :: u74 :: u75 :: u76 :: u77 :: u78 :: u79 :: u80 :: u81 :: u82 :: u83 :: u84 :: u85 :: u86 :: u87 :: u88 :: u89 :: u90 :: u91 :: u92 :: u93 :: u94 :: u95 :: u96 :: u97 :: u98 :: u99 :: t100 :: t101 :: t102 :: t103 :: t104 :: t105 :: t106 :: t107 :: t108 :: t109 :: t110 :: t111 :: t112 :: t113 :: t114 :: t115 :: t116 :: t117 :: t118 :: t119 :: t120 :: t121 :: t122 :: t123 :: t124 :: t125 :: t126 :: t127 :: t128 :: t129 :: t130 :: t131 :: t132 :: t133 :: t134 :: t135 :: t136 :: t137 :: t138 :: t139 :: t140 :: t141 :: t142 :: t143 :: t144 :: t145 :: t146 :: t147 :: t148 :: t149 :: t150 :: t151 :: t152 :: t153 :: t154 :: t155 :: t156 :: t157 :: t158 :: t159 :: t160 :: t161 :: t162 :: t163 :: t164 :: t165 :: t166 :: t167 :: t168 :: t169 :: t170 :: t171 :: t172 :: t173 :: t174 :: t175 :: t176 :: t177 :: t178 :: t179 :: t180 :: t181 :: t182 :: t183 :: t184 :: t185 :: t186 :: t187 :: t188 :: t189 :: t190 :: t191 :: t192 :: t193 :: t194 :: t195 :: t196 :: t197 :: t198 :: t199 :: t200 :: t201 :: t202 :: t203 :: t204 :: t205 :: t206 :: t207 :: t208 :: t209 :: t210 :: t211 :: t212 :: t213 :: t214 :: t215 :: t216 :: t217 :: t218 :: t219 :: t220 :: t221 :: t222 :: t223 :: t224 :: t225 :: t226 :: t227 :: t228 :: t229 :: t230 :: t231 :: u232 :: u233 :: u234 :: u235 :: u236 :: u237 :: u238 :: u239 :: u240 :: u241 :: u242 :: u243 :: u244 :: u245 :: u246 :: u247 :: u248 :: u249 :: u250 :: u251 :: u252 :: u253 :: u254 :: u255 :: u256 :: u257 :: u258 :: u259 :: u260 :: u261 :: u262 :: u263 :: u264 :: u265 :: u266 :: u267 :: u268 :: u269 :: u270 :: u271 :: u272 :: u273 :: u274 :: u275 :: u276 :: u277 :: List.nil).toArray, []⟩ W')) :
    Code.wp Tryz.prog (tcB 2) (Exit.then K Q') ⟨(u0 :: u1 :: u2 :: u3 :: u4 :: (.pointer (some ⟨E.bb, 0, none⟩)) :: u6 :: (.pointer (some ⟨E.g, 0, none⟩)) :: u8 :: (.pointer (some ⟨E.tg, 0, none⟩)) :: (.pointer (some ⟨E.ub, 0, none⟩)) :: (.pointer (some ⟨E.db, 0, none⟩)) :: v12 :: v13 :: (.int .i64 now) :: (.int .i64 i) :: u16 :: u17 :: u18 :: (.int .i64 1) :: u20 :: u21 :: u22 :: u23 :: u24 :: u25 :: u26 :: u27 :: u28 :: u29 :: u30 :: u31 :: u32 :: u33 :: u34 :: u35 :: u36 :: u37 :: u38 :: u39 :: u40 :: u41 :: u42 :: u43 :: u44 :: u45 :: u46 :: u47 :: u48 :: u49 :: u50 :: u51 :: u52 :: u53 :: u54 :: u55 :: u56 :: u57 :: u58 :: u59 :: u60 :: u61 :: u62 :: u63 :: u64 :: u65 :: u66 :: u67 :: u68 :: u69 :: u70 :: u71 :: u72 :: u73 :: u74 :: u75 :: u76 :: u77 :: u78 :: u79 :: u80 :: u81 :: u82 :: u83 :: u84 :: u85 :: u86 :: u87 :: u88 :: u89 :: u90 :: u91 :: u92 :: u93 :: u94 :: u95 :: u96 :: u97 :: u98 :: u99 :: u100 :: u101 :: u102 :: u103 :: u104 :: u105 :: u106 :: u107 :: u108 :: u109 :: u110 :: u111 :: u112 :: u113 :: u114 :: u115 :: u116 :: u117 :: u118 :: u119 :: u120 :: u121 :: u122 :: u123 :: u124 :: u125 :: u126 :: u127 :: u128 :: u129 :: u130 :: u131 :: u132 :: u133 :: u134 :: u135 :: u136 :: u137 :: u138 :: u139 :: u140 :: u141 :: u142 :: u143 :: u144 :: u145 :: u146 :: u147 :: u148 :: u149 :: u150 :: u151 :: u152 :: u153 :: u154 :: u155 :: u156 :: u157 :: u158 :: u159 :: u160 :: u161 :: u162 :: u163 :: u164 :: u165 :: u166 :: u167 :: u168 :: u169 :: u170 :: u171 :: u172 :: u173 :: u174 :: u175 :: u176 :: u177 :: u178 :: u179 :: u180 :: u181 :: u182 :: u183 :: u184 :: u185 :: u186 :: u187 :: u188 :: u189 :: u190 :: u191 :: u192 :: u193 :: u194 :: u195 :: u196 :: u197 :: u198 :: u199 :: u200 :: u201 :: u202 :: u203 :: u204 :: u205 :: u206 :: u207 :: u208 :: u209 :: u210 :: u211 :: u212 :: u213 :: u214 :: u215 :: u216 :: u217 :: u218 :: u219 :: u220 :: u221 :: u222 :: u223 :: u224 :: u225 :: u226 :: u227 :: u228 :: u229 :: u230 :: u231 :: u232 :: u233 :: u234 :: u235 :: u236 :: u237 :: u238 :: u239 :: u240 :: u241 :: u242 :: u243 :: u244 :: u245 :: u246 :: u247 :: u248 :: u249 :: u250 :: u251 :: u252 :: u253 :: u254 :: u255 :: u256 :: u257 :: u258 :: u259 :: u260 :: u261 :: u262 :: u263 :: u264 :: u265 :: u266 :: u267 :: u268 :: u269 :: u270 :: u271 :: u272 :: u273 :: u274 :: u275 :: u276 :: u277 :: List.nil).toArray, []⟩ W := by
  refine wp_mono (Q := Exit.then K fun _ _ _ => False) ?_ (fun e a w hq => by cases e <;> first | exact hq | exact hq.elim)
  have HK0 := Asd.mk hK
  clear hK
  have HPx := Asd.mk HPx
  have TK := Asd.mk (Tick_calls (base := E.B0) HPx.out.mem.mc.at_ (HPx.out.mem.mc.one.one E.B0) (now + 1) (by have := HPx.out.cp.now0; omega) (by have := HPx.out.now1; have := HPx.out.i1; omega) HPx.out.xok HPx.out.eo.ok HPx.out.mem.mc.req HPx.out.leb HPx.out.eo.g0)
  have hnw1 := HPx.out.now0
  have hnw2 := HPx.out.now1
  have hi2 := HPx.out.i1
  conv => arg 2; whnf
  go_wp2_with fail
  refine TK.out.mono ?_
  rintro e w7 ⟨rfl, hg7, hc7 | ⟨hwt, hc7⟩ | ⟨hwt, oA, oc, hc7, ho7⟩⟩
  · have FIN := Asd.mk (HPx.out.tick1 hg7 (.inr rfl) hc7)
    clear hg7 hc7 TK
    go_wp2_with fail
    apply HK0.out
    exact FIN.out
  · have FIN := Asd.mk (HPx.out.tick2 hg7 hwt hc7)
    clear hg7 hc7 TK hwt
    go_wp2_with fail
    apply HK0.out
    exact FIN.out
  · have FIN := Asd.mk (HPx.out.tick3 hg7 hwt hc7 ho7)
    clear hg7 hc7 TK hwt ho7
    go_wp2_with fail
    apply HK0.out
    exact FIN.out
end Go.Proofs.YtallnibjmffahaaGreatDoor

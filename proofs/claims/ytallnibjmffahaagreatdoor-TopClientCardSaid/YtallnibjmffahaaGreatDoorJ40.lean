/- TopClient: the switch, kind 5. TopClient: the switch, kind 6. TopClient: the switch, kind 7. -/
import Derived.Test.YtallnibjmffahaaGreatDoorJ33
import Derived.Test.YtallnibjmffahaaGreatDoorJ39
import Derived.Deep.CutBlock
set_option linter.unusedVariables false
set_option linter.unusedSimpArgs false
namespace Go.Proofs.YtallnibjmffahaaGreatDoor
open Go.RowKit

set_option maxHeartbeats 8000000 in
set_option maxRecDepth 100000 in
theorem arm5 {K : Act → World → Prop} {Q' : Exit → Act → World → Prop} {E : Env} {w W : World} {i : Nat} {v12 v13 : Value} {now : Int} {hs : List CallR} {os : List Int} {ups dns : List ByteArray} {reps : List RepR} {rows : List Rw} {x : CliR} {rq : List OpR} {s : ByteArray} (HPx : HP E w i W v12 v13 now hs os ups dns reps rows x rq s) {kk : Int} (KK : 0 < dns.length → 0 ≤ kk ∧ kk < dns.length) {u0 u1 u2 u3 u4 u6 u8 u16 u20 u21 u22 u23 u24 u25 u26 u27 u28 u29 u30 u31 u32 u33 u34 u35 u36 u37 u38 u39 u40 u41 u42 u43 u44 u45 u46 u47 u48 u49 u50 u51 u52 u53 u54 u55 u56 u57 u58 u59 u60 u61 u62 u63 u64 u65 u66 u67 u68 u69 u70 u71 u72 u73 u74 u75 u76 u77 u78 u79 u80 u81 u82 u83 u84 u85 u86 u87 u88 u89 u90 u91 u92 u93 u94 u95 u96 u97 u98 u99 u100 u101 u102 u103 u104 u105 u106 u107 u108 u109 u110 u111 u112 u113 u114 u115 u116 u117 u118 u119 u120 u121 u122 u123 u124 u125 u126 u127 u128 u129 u130 u131 u132 u133 u134 u135 u136 u137 u138 u139 u140 u141 u142 u143 u144 u145 u146 u147 u148 u149 u150 u151 u152 u153 u154 u155 u156 u157 u158 u159 u160 u161 u162 u163 u164 u165 u166 u167 u168 u169 u170 u171 u172 u173 u174 u175 u176 u177 u178 u179 u180 u181 u182 u183 u184 u185 u186 u187 u188 u189 u190 u191 u192 u193 u194 u195 u196 u197 u198 u199 u200 u201 u202 u203 u204 u205 u206 u207 u208 u209 u210 u211 u212 u213 u214 u215 u216 u217 u218 u219 u220 u221 u222 u223 u224 u225 u226 u227 u228 u229 u230 u231 u232 u233 u234 u235 u236 u237 u238 u239 u240 u241 u242 u243 u244 u245 u246 u247 u248 u249 u250 u251 u252 u253 u254 u255 u256 u257 u258 u259 u260 u261 u262 u263 u264 u265 u266 u267 u268 u269 u270 u271 u272 u273 u274 u275 u276 u277 : Value}
    (hK : (∀ (t12 t13 t14 t20 t21 t22 t23 t24 t25 t100 t101 t102 t103 t104 t105 t106 t107 t108 t109 t110 t111 t112 t113 t114 t115 t116 t117 t118 t119 t120 t121 t122 t123 t124 t125 t126 t127 t128 t129 t130 t131 t132 t133 t134 t135 t136 t137 t138 t139 t140 t141 t142 t143 t144 t145 t146 t147 t148 t149 t150 t151 t152 t153 t154 t155 t156 t157 t158 t159 t160 t161 t162 t163 t164 t165 t166 t167 t168 t169 t170 t171 t172 t173 t174 t175 t176 t177 t178 t179 t180 t181 t182 t183 t184 t185 t186 t187 t188 t189 t190 t191 t192 t193 t194 t195 t196 t197 t198 t199 t200 t201 t202 t203 t204 t205 t206 t207 t208 t209 t210 t211 t212 t213 t214 t215 t216 t217 t218 t219 t220 t221 t222 t223 t224 t225 t226 t227 t228 t229 t230 t231 : Value) (W' : World), MidS E w i t12 t13 t14 W' → K ⟨(u0 :: u1 :: u2 :: u3 :: u4 :: (.pointer (some ⟨E.bb, 0, none⟩)) :: u6 :: (.pointer (some ⟨E.g, 0, none⟩)) :: u8 :: (.pointer (some ⟨E.tg, 0, none⟩)) :: (.pointer (some ⟨E.ub, 0, none⟩)) :: (.pointer (some ⟨E.db, 0, none⟩)) :: t12 :: t13 :: t14 :: (.int .i64 i) :: u16 :: (.pointer (some ⟨E.db, 0, none⟩)) :: (.int .i64 kk) :: (.int .i64 5) :: t20 :: t21 :: t22 :: t23 :: t24 :: t25 :: u26 :: u27 :: u28 :: u29 :: u30 :: u31 :: u32 :: u33 :: u34 :: u35 :: u36 :: u37 :: u38 :: u39 :: u40 :: u41 :: u42 :: u43 :: u44 :: u45 :: u46 :: u47 :: u48 :: u49 :: u50 :: u51 :: u52 :: u53 :: u54 :: u55 :: u56 :: u57 :: u58 :: u59 :: u60 :: u61 :: u62 :: u63 :: u64 :: u65 :: u66 :: u67 :: u68 :: u69 :: u70 :: u71 :: u72 :: u73 :: u74 :: u75 :: u76 :: u77 :: u78 :: u79 :: u80 :: u81 :: u82 :: u83 :: u84 :: u85 :: u86 :: u87 :: u88 :: u89 :: u90 :: u91 :: u92 :: u93 :: u94 :: u95 :: u96 :: u97 :: u98 :: u99 :: t100 :: t101 :: t102 :: t103 :: t104 :: t105 :: t106 :: t107 :: t108 :: t109 :: t110 :: t111 :: t112 :: t113 :: t114 :: t115 :: t116 :: t117 :: t118 :: t119 :: t120 :: t121 :: t122 :: t123 :: t124 :: t125 :: t126 :: t127 :: t128 :: t129 :: t130 :: t131 :: t132 :: t133 :: t134 :: t135 :: t136 :: t137 :: t138 :: t139 :: t140 :: t141 :: t142 :: t143 :: t144 :: t145 :: t146 :: t147 :: t148 :: t149 :: t150 :: t151 :: t152 :: t153 :: t154 :: t155 :: t156 :: t157 :: t158 :: t159 :: t160 :: t161 :: t162 :: t163 :: t164 :: t165 :: t166 :: t167 :: t168 :: t169 :: t170 :: t171 :: t172 :: t173 :: t174 :: t175 :: t176 :: t177 :: t178 :: t179 :: t180 :: t181 :: t182 :: t183 :: t184 :: t185 :: t186 :: t187 :: t188 :: t189 :: t190 :: t191 :: t192 :: t193 :: t194 :: t195 :: t196 :: t197 :: t198 :: t199 :: t200 :: t201 :: t202 :: t203 :: t204 :: t205 :: t206 :: t207 :: t208 :: t209 :: t210 :: t211 :: t212 :: t213 :: t214 :: t215 :: t216 :: t217 :: t218 :: t219 :: t220 :: t221 :: t222 :: t223 :: t224 :: t225 :: t226 :: t227 :: t228 :: t229 :: t230 :: t231 :: u232 :: u233 :: u234 :: u235 :: u236 :: u237 :: u238 :: u239 :: u240 :: u241 :: u242 :: u243 :: u244 :: u245 :: u246 :: u247 :: u248 :: u249 :: u250 :: u251 :: u252 :: u253 :: u254 :: u255 :: u256 :: u257 :: u258 :: u259 :: u260 :: u261 :: u262 :: u263 :: u264 :: u265 :: u266 :: u267 :: u268 :: u269 :: u270 :: u271 :: u272 :: u273 :: u274 :: u275 :: u276 :: u277 :: List.nil).toArray, []⟩ W')) :
    Code.wp Tryz.prog (tcB 2) (Exit.then K Q') ⟨(u0 :: u1 :: u2 :: u3 :: u4 :: (.pointer (some ⟨E.bb, 0, none⟩)) :: u6 :: (.pointer (some ⟨E.g, 0, none⟩)) :: u8 :: (.pointer (some ⟨E.tg, 0, none⟩)) :: (.pointer (some ⟨E.ub, 0, none⟩)) :: (.pointer (some ⟨E.db, 0, none⟩)) :: v12 :: v13 :: (.int .i64 now) :: (.int .i64 i) :: u16 :: (.pointer (some ⟨E.db, 0, none⟩)) :: (.int .i64 kk) :: (.int .i64 5) :: u20 :: u21 :: u22 :: u23 :: u24 :: u25 :: u26 :: u27 :: u28 :: u29 :: u30 :: u31 :: u32 :: u33 :: u34 :: u35 :: u36 :: u37 :: u38 :: u39 :: u40 :: u41 :: u42 :: u43 :: u44 :: u45 :: u46 :: u47 :: u48 :: u49 :: u50 :: u51 :: u52 :: u53 :: u54 :: u55 :: u56 :: u57 :: u58 :: u59 :: u60 :: u61 :: u62 :: u63 :: u64 :: u65 :: u66 :: u67 :: u68 :: u69 :: u70 :: u71 :: u72 :: u73 :: u74 :: u75 :: u76 :: u77 :: u78 :: u79 :: u80 :: u81 :: u82 :: u83 :: u84 :: u85 :: u86 :: u87 :: u88 :: u89 :: u90 :: u91 :: u92 :: u93 :: u94 :: u95 :: u96 :: u97 :: u98 :: u99 :: u100 :: u101 :: u102 :: u103 :: u104 :: u105 :: u106 :: u107 :: u108 :: u109 :: u110 :: u111 :: u112 :: u113 :: u114 :: u115 :: u116 :: u117 :: u118 :: u119 :: u120 :: u121 :: u122 :: u123 :: u124 :: u125 :: u126 :: u127 :: u128 :: u129 :: u130 :: u131 :: u132 :: u133 :: u134 :: u135 :: u136 :: u137 :: u138 :: u139 :: u140 :: u141 :: u142 :: u143 :: u144 :: u145 :: u146 :: u147 :: u148 :: u149 :: u150 :: u151 :: u152 :: u153 :: u154 :: u155 :: u156 :: u157 :: u158 :: u159 :: u160 :: u161 :: u162 :: u163 :: u164 :: u165 :: u166 :: u167 :: u168 :: u169 :: u170 :: u171 :: u172 :: u173 :: u174 :: u175 :: u176 :: u177 :: u178 :: u179 :: u180 :: u181 :: u182 :: u183 :: u184 :: u185 :: u186 :: u187 :: u188 :: u189 :: u190 :: u191 :: u192 :: u193 :: u194 :: u195 :: u196 :: u197 :: u198 :: u199 :: u200 :: u201 :: u202 :: u203 :: u204 :: u205 :: u206 :: u207 :: u208 :: u209 :: u210 :: u211 :: u212 :: u213 :: u214 :: u215 :: u216 :: u217 :: u218 :: u219 :: u220 :: u221 :: u222 :: u223 :: u224 :: u225 :: u226 :: u227 :: u228 :: u229 :: u230 :: u231 :: u232 :: u233 :: u234 :: u235 :: u236 :: u237 :: u238 :: u239 :: u240 :: u241 :: u242 :: u243 :: u244 :: u245 :: u246 :: u247 :: u248 :: u249 :: u250 :: u251 :: u252 :: u253 :: u254 :: u255 :: u256 :: u257 :: u258 :: u259 :: u260 :: u261 :: u262 :: u263 :: u264 :: u265 :: u266 :: u267 :: u268 :: u269 :: u270 :: u271 :: u272 :: u273 :: u274 :: u275 :: u276 :: u277 :: List.nil).toArray, []⟩ W := by
  refine wp_mono (Q := Exit.then K fun _ _ _ => False) ?_ (fun e a w hq => by cases e <;> first | exact hq | exact hq.elim)
  have HK0 := Asd.mk hK
  clear hK
  have HPx := Asd.mk HPx
  obtain ⟨dA, uA, hd, ⟨uc, u1', u2'⟩, hne⟩ := HPx.out.mem.ml.ex
  have U1 := Asd.mk u1'
  have U2 := Asd.mk u2'
  have HD := Asd.mk (And.intro hd hne)
  have u0 : W.cell? ⟨E.db, 0, none⟩ = some (.slice uA dns.length uc) := (cell_of_row _ _ 0 _ _ _ u1').trans rfl
  have ubl := (Array.getElem?_eq_some_iff.1 u1').1
  have hl1 := HPx.out.dlen
  clear u1' u2' hd hne
  conv => arg 2; whnf
  rcases Nat.eq_zero_or_pos dns.length with hz | hz
  · have FIN := Asd.mk (HPx.out.skip (Below.refl W.heap.size W))
    have hz1 : ((dns.length : Int) == 0) = true := by rw [beq_iff_eq]; omega
    go_wp2_with fail
    apply HK0.out
    exact FIN.out
  · have hz1 : ((dns.length : Int) == 0) = false := by rw [beq_eq_false_iff_ne]; omega
    have hkk := KK hz
    obtain ⟨kn, rfl⟩ : ∃ kn : Nat, kk = kn := ⟨kk.toNat, by omega⟩
    have hkn : kn < dns.length := by omega
    clear KK hkk
    go_upto_region 43 with fail
    refine del43q U1.out U2.out hkn hl1 ?_
    intro t197 t198 t199 t200 t201 t202 t203 t204 t205 t206 t207 t208 t209 t210 t211 t212 v9 W9 WX h1 h2 h3
    have FIN := Asd.mk ((HPx.out.delDn hkn h1 h2).1.skip h3)
    clear h1 h2 h3
    go_wp2_with fail
    apply HK0.out
    exact FIN.out
end Go.Proofs.YtallnibjmffahaaGreatDoor

set_option linter.unusedVariables false
set_option linter.unusedSimpArgs false
namespace Go.Proofs.YtallnibjmffahaaGreatDoor
open Go.RowKit

set_option maxHeartbeats 8000000 in
set_option maxRecDepth 100000 in
theorem arm6 {K : Act → World → Prop} {Q' : Exit → Act → World → Prop} {E : Env} {w W : World} {i : Nat} {v12 v13 : Value} {now : Int} {hs : List CallR} {os : List Int} {ups dns : List ByteArray} {reps : List RepR} {rows : List Rw} {x : CliR} {rq : List OpR} {s : ByteArray} (HPx : HP E w i W v12 v13 now hs os ups dns reps rows x rq s) {kk : Int} (KK : 0 < ups.length → 0 ≤ kk ∧ kk < ups.length) {u0 u1 u2 u3 u4 u6 u8 u16 u20 u21 u22 u23 u24 u25 u26 u27 u28 u29 u30 u31 u32 u33 u34 u35 u36 u37 u38 u39 u40 u41 u42 u43 u44 u45 u46 u47 u48 u49 u50 u51 u52 u53 u54 u55 u56 u57 u58 u59 u60 u61 u62 u63 u64 u65 u66 u67 u68 u69 u70 u71 u72 u73 u74 u75 u76 u77 u78 u79 u80 u81 u82 u83 u84 u85 u86 u87 u88 u89 u90 u91 u92 u93 u94 u95 u96 u97 u98 u99 u100 u101 u102 u103 u104 u105 u106 u107 u108 u109 u110 u111 u112 u113 u114 u115 u116 u117 u118 u119 u120 u121 u122 u123 u124 u125 u126 u127 u128 u129 u130 u131 u132 u133 u134 u135 u136 u137 u138 u139 u140 u141 u142 u143 u144 u145 u146 u147 u148 u149 u150 u151 u152 u153 u154 u155 u156 u157 u158 u159 u160 u161 u162 u163 u164 u165 u166 u167 u168 u169 u170 u171 u172 u173 u174 u175 u176 u177 u178 u179 u180 u181 u182 u183 u184 u185 u186 u187 u188 u189 u190 u191 u192 u193 u194 u195 u196 u197 u198 u199 u200 u201 u202 u203 u204 u205 u206 u207 u208 u209 u210 u211 u212 u213 u214 u215 u216 u217 u218 u219 u220 u221 u222 u223 u224 u225 u226 u227 u228 u229 u230 u231 u232 u233 u234 u235 u236 u237 u238 u239 u240 u241 u242 u243 u244 u245 u246 u247 u248 u249 u250 u251 u252 u253 u254 u255 u256 u257 u258 u259 u260 u261 u262 u263 u264 u265 u266 u267 u268 u269 u270 u271 u272 u273 u274 u275 u276 u277 : Value}
    (hK : (∀ (t12 t13 t14 t20 t21 t22 t23 t24 t25 t100 t101 t102 t103 t104 t105 t106 t107 t108 t109 t110 t111 t112 t113 t114 t115 t116 t117 t118 t119 t120 t121 t122 t123 t124 t125 t126 t127 t128 t129 t130 t131 t132 t133 t134 t135 t136 t137 t138 t139 t140 t141 t142 t143 t144 t145 t146 t147 t148 t149 t150 t151 t152 t153 t154 t155 t156 t157 t158 t159 t160 t161 t162 t163 t164 t165 t166 t167 t168 t169 t170 t171 t172 t173 t174 t175 t176 t177 t178 t179 t180 t181 t182 t183 t184 t185 t186 t187 t188 t189 t190 t191 t192 t193 t194 t195 t196 t197 t198 t199 t200 t201 t202 t203 t204 t205 t206 t207 t208 t209 t210 t211 t212 t213 t214 t215 t216 t217 t218 t219 t220 t221 t222 t223 t224 t225 t226 t227 t228 t229 t230 t231 : Value) (W' : World), MidS E w i t12 t13 t14 W' → K ⟨(u0 :: u1 :: u2 :: u3 :: u4 :: (.pointer (some ⟨E.bb, 0, none⟩)) :: u6 :: (.pointer (some ⟨E.g, 0, none⟩)) :: u8 :: (.pointer (some ⟨E.tg, 0, none⟩)) :: (.pointer (some ⟨E.ub, 0, none⟩)) :: (.pointer (some ⟨E.db, 0, none⟩)) :: t12 :: t13 :: t14 :: (.int .i64 i) :: u16 :: (.pointer (some ⟨E.ub, 0, none⟩)) :: (.int .i64 kk) :: (.int .i64 6) :: t20 :: t21 :: t22 :: t23 :: t24 :: t25 :: u26 :: u27 :: u28 :: u29 :: u30 :: u31 :: u32 :: u33 :: u34 :: u35 :: u36 :: u37 :: u38 :: u39 :: u40 :: u41 :: u42 :: u43 :: u44 :: u45 :: u46 :: u47 :: u48 :: u49 :: u50 :: u51 :: u52 :: u53 :: u54 :: u55 :: u56 :: u57 :: u58 :: u59 :: u60 :: u61 :: u62 :: u63 :: u64 :: u65 :: u66 :: u67 :: u68 :: u69 :: u70 :: u71 :: u72 :: u73 :: u74 :: u75 :: u76 :: u77 :: u78 :: u79 :: u80 :: u81 :: u82 :: u83 :: u84 :: u85 :: u86 :: u87 :: u88 :: u89 :: u90 :: u91 :: u92 :: u93 :: u94 :: u95 :: u96 :: u97 :: u98 :: u99 :: t100 :: t101 :: t102 :: t103 :: t104 :: t105 :: t106 :: t107 :: t108 :: t109 :: t110 :: t111 :: t112 :: t113 :: t114 :: t115 :: t116 :: t117 :: t118 :: t119 :: t120 :: t121 :: t122 :: t123 :: t124 :: t125 :: t126 :: t127 :: t128 :: t129 :: t130 :: t131 :: t132 :: t133 :: t134 :: t135 :: t136 :: t137 :: t138 :: t139 :: t140 :: t141 :: t142 :: t143 :: t144 :: t145 :: t146 :: t147 :: t148 :: t149 :: t150 :: t151 :: t152 :: t153 :: t154 :: t155 :: t156 :: t157 :: t158 :: t159 :: t160 :: t161 :: t162 :: t163 :: t164 :: t165 :: t166 :: t167 :: t168 :: t169 :: t170 :: t171 :: t172 :: t173 :: t174 :: t175 :: t176 :: t177 :: t178 :: t179 :: t180 :: t181 :: t182 :: t183 :: t184 :: t185 :: t186 :: t187 :: t188 :: t189 :: t190 :: t191 :: t192 :: t193 :: t194 :: t195 :: t196 :: t197 :: t198 :: t199 :: t200 :: t201 :: t202 :: t203 :: t204 :: t205 :: t206 :: t207 :: t208 :: t209 :: t210 :: t211 :: t212 :: t213 :: t214 :: t215 :: t216 :: t217 :: t218 :: t219 :: t220 :: t221 :: t222 :: t223 :: t224 :: t225 :: t226 :: t227 :: t228 :: t229 :: t230 :: t231 :: u232 :: u233 :: u234 :: u235 :: u236 :: u237 :: u238 :: u239 :: u240 :: u241 :: u242 :: u243 :: u244 :: u245 :: u246 :: u247 :: u248 :: u249 :: u250 :: u251 :: u252 :: u253 :: u254 :: u255 :: u256 :: u257 :: u258 :: u259 :: u260 :: u261 :: u262 :: u263 :: u264 :: u265 :: u266 :: u267 :: u268 :: u269 :: u270 :: u271 :: u272 :: u273 :: u274 :: u275 :: u276 :: u277 :: List.nil).toArray, []⟩ W')) :
    Code.wp Tryz.prog (tcB 2) (Exit.then K Q') ⟨(u0 :: u1 :: u2 :: u3 :: u4 :: (.pointer (some ⟨E.bb, 0, none⟩)) :: u6 :: (.pointer (some ⟨E.g, 0, none⟩)) :: u8 :: (.pointer (some ⟨E.tg, 0, none⟩)) :: (.pointer (some ⟨E.ub, 0, none⟩)) :: (.pointer (some ⟨E.db, 0, none⟩)) :: v12 :: v13 :: (.int .i64 now) :: (.int .i64 i) :: u16 :: (.pointer (some ⟨E.ub, 0, none⟩)) :: (.int .i64 kk) :: (.int .i64 6) :: u20 :: u21 :: u22 :: u23 :: u24 :: u25 :: u26 :: u27 :: u28 :: u29 :: u30 :: u31 :: u32 :: u33 :: u34 :: u35 :: u36 :: u37 :: u38 :: u39 :: u40 :: u41 :: u42 :: u43 :: u44 :: u45 :: u46 :: u47 :: u48 :: u49 :: u50 :: u51 :: u52 :: u53 :: u54 :: u55 :: u56 :: u57 :: u58 :: u59 :: u60 :: u61 :: u62 :: u63 :: u64 :: u65 :: u66 :: u67 :: u68 :: u69 :: u70 :: u71 :: u72 :: u73 :: u74 :: u75 :: u76 :: u77 :: u78 :: u79 :: u80 :: u81 :: u82 :: u83 :: u84 :: u85 :: u86 :: u87 :: u88 :: u89 :: u90 :: u91 :: u92 :: u93 :: u94 :: u95 :: u96 :: u97 :: u98 :: u99 :: u100 :: u101 :: u102 :: u103 :: u104 :: u105 :: u106 :: u107 :: u108 :: u109 :: u110 :: u111 :: u112 :: u113 :: u114 :: u115 :: u116 :: u117 :: u118 :: u119 :: u120 :: u121 :: u122 :: u123 :: u124 :: u125 :: u126 :: u127 :: u128 :: u129 :: u130 :: u131 :: u132 :: u133 :: u134 :: u135 :: u136 :: u137 :: u138 :: u139 :: u140 :: u141 :: u142 :: u143 :: u144 :: u145 :: u146 :: u147 :: u148 :: u149 :: u150 :: u151 :: u152 :: u153 :: u154 :: u155 :: u156 :: u157 :: u158 :: u159 :: u160 :: u161 :: u162 :: u163 :: u164 :: u165 :: u166 :: u167 :: u168 :: u169 :: u170 :: u171 :: u172 :: u173 :: u174 :: u175 :: u176 :: u177 :: u178 :: u179 :: u180 :: u181 :: u182 :: u183 :: u184 :: u185 :: u186 :: u187 :: u188 :: u189 :: u190 :: u191 :: u192 :: u193 :: u194 :: u195 :: u196 :: u197 :: u198 :: u199 :: u200 :: u201 :: u202 :: u203 :: u204 :: u205 :: u206 :: u207 :: u208 :: u209 :: u210 :: u211 :: u212 :: u213 :: u214 :: u215 :: u216 :: u217 :: u218 :: u219 :: u220 :: u221 :: u222 :: u223 :: u224 :: u225 :: u226 :: u227 :: u228 :: u229 :: u230 :: u231 :: u232 :: u233 :: u234 :: u235 :: u236 :: u237 :: u238 :: u239 :: u240 :: u241 :: u242 :: u243 :: u244 :: u245 :: u246 :: u247 :: u248 :: u249 :: u250 :: u251 :: u252 :: u253 :: u254 :: u255 :: u256 :: u257 :: u258 :: u259 :: u260 :: u261 :: u262 :: u263 :: u264 :: u265 :: u266 :: u267 :: u268 :: u269 :: u270 :: u271 :: u272 :: u273 :: u274 :: u275 :: u276 :: u277 :: List.nil).toArray, []⟩ W := by
  refine wp_mono (Q := Exit.then K fun _ _ _ => False) ?_ (fun e a w hq => by cases e <;> first | exact hq | exact hq.elim)
  have HK0 := Asd.mk hK
  clear hK
  have HPx := Asd.mk HPx
  obtain ⟨uA, dA, ⟨uc, u1', u2'⟩, hd, hne⟩ := HPx.out.mem.ml.ex
  have U1 := Asd.mk u1'
  have U2 := Asd.mk u2'
  have HD := Asd.mk (And.intro hd hne)
  have u0 : W.cell? ⟨E.ub, 0, none⟩ = some (.slice uA ups.length uc) := (cell_of_row _ _ 0 _ _ _ u1').trans rfl
  have ubl := (Array.getElem?_eq_some_iff.1 u1').1
  have hl1 := HPx.out.ulen
  clear u1' u2' hd hne
  conv => arg 2; whnf
  rcases Nat.eq_zero_or_pos ups.length with hz | hz
  · have FIN := Asd.mk (HPx.out.skip (Below.refl W.heap.size W))
    have hz1 : ((ups.length : Int) == 0) = true := by rw [beq_iff_eq]; omega
    go_wp2_with fail
    apply HK0.out
    exact FIN.out
  · have hz1 : ((ups.length : Int) == 0) = false := by rw [beq_eq_false_iff_ne]; omega
    have hkk := KK hz
    obtain ⟨kn, rfl⟩ : ∃ kn : Nat, kk = kn := ⟨kk.toNat, by omega⟩
    have hkn : kn < ups.length := by omega
    clear KK hkk
    rcases Nat.lt_or_ge ups.length 50 with h50 | h50
    · go_upto_region 45 with fail
      refine copy45q U1.out HPx.out.eo.ub1 U2.out HPx.out.mem.b1 hkn hl1 ?_
      intro t219 t220 t221 t222 t223 t224 t225 t226 t227 t228 t229 t230 t231 v9 W9 WX o h1 h2 h3 h4
      have FIN := Asd.mk (HPx.out.copyUp2 (List.getElem_mem hkn) U1.out U2.out HD.out.1 HD.out.2 h1 h2 h3 h4)
      clear h1 h2 h3 h4
      go_wp2_with fail
      apply HK0.out
      exact FIN.out
    · have FIN := Asd.mk (HPx.out.skip (Below.refl W.heap.size W))
      go_wp2_with fail
      apply HK0.out
      exact FIN.out
end Go.Proofs.YtallnibjmffahaaGreatDoor

set_option linter.unusedVariables false
set_option linter.unusedSimpArgs false
namespace Go.Proofs.YtallnibjmffahaaGreatDoor
open Go.RowKit

set_option maxHeartbeats 8000000 in
set_option maxRecDepth 100000 in
theorem arm7 {K : Act → World → Prop} {Q' : Exit → Act → World → Prop} {E : Env} {w W : World} {i : Nat} {v12 v13 : Value} {now : Int} {hs : List CallR} {os : List Int} {ups dns : List ByteArray} {reps : List RepR} {rows : List Rw} {x : CliR} {rq : List OpR} {s : ByteArray} (HPx : HP E w i W v12 v13 now hs os ups dns reps rows x rq s) {kk : Int} (KK : 0 < dns.length → 0 ≤ kk ∧ kk < dns.length) {u0 u1 u2 u3 u4 u6 u8 u16 u20 u21 u22 u23 u24 u25 u26 u27 u28 u29 u30 u31 u32 u33 u34 u35 u36 u37 u38 u39 u40 u41 u42 u43 u44 u45 u46 u47 u48 u49 u50 u51 u52 u53 u54 u55 u56 u57 u58 u59 u60 u61 u62 u63 u64 u65 u66 u67 u68 u69 u70 u71 u72 u73 u74 u75 u76 u77 u78 u79 u80 u81 u82 u83 u84 u85 u86 u87 u88 u89 u90 u91 u92 u93 u94 u95 u96 u97 u98 u99 u100 u101 u102 u103 u104 u105 u106 u107 u108 u109 u110 u111 u112 u113 u114 u115 u116 u117 u118 u119 u120 u121 u122 u123 u124 u125 u126 u127 u128 u129 u130 u131 u132 u133 u134 u135 u136 u137 u138 u139 u140 u141 u142 u143 u144 u145 u146 u147 u148 u149 u150 u151 u152 u153 u154 u155 u156 u157 u158 u159 u160 u161 u162 u163 u164 u165 u166 u167 u168 u169 u170 u171 u172 u173 u174 u175 u176 u177 u178 u179 u180 u181 u182 u183 u184 u185 u186 u187 u188 u189 u190 u191 u192 u193 u194 u195 u196 u197 u198 u199 u200 u201 u202 u203 u204 u205 u206 u207 u208 u209 u210 u211 u212 u213 u214 u215 u216 u217 u218 u219 u220 u221 u222 u223 u224 u225 u226 u227 u228 u229 u230 u231 u232 u233 u234 u235 u236 u237 u238 u239 u240 u241 u242 u243 u244 u245 u246 u247 u248 u249 u250 u251 u252 u253 u254 u255 u256 u257 u258 u259 u260 u261 u262 u263 u264 u265 u266 u267 u268 u269 u270 u271 u272 u273 u274 u275 u276 u277 : Value}
    (hK : (∀ (t12 t13 t14 t20 t21 t22 t23 t24 t25 t100 t101 t102 t103 t104 t105 t106 t107 t108 t109 t110 t111 t112 t113 t114 t115 t116 t117 t118 t119 t120 t121 t122 t123 t124 t125 t126 t127 t128 t129 t130 t131 t132 t133 t134 t135 t136 t137 t138 t139 t140 t141 t142 t143 t144 t145 t146 t147 t148 t149 t150 t151 t152 t153 t154 t155 t156 t157 t158 t159 t160 t161 t162 t163 t164 t165 t166 t167 t168 t169 t170 t171 t172 t173 t174 t175 t176 t177 t178 t179 t180 t181 t182 t183 t184 t185 t186 t187 t188 t189 t190 t191 t192 t193 t194 t195 t196 t197 t198 t199 t200 t201 t202 t203 t204 t205 t206 t207 t208 t209 t210 t211 t212 t213 t214 t215 t216 t217 t218 t219 t220 t221 t222 t223 t224 t225 t226 t227 t228 t229 t230 t231 : Value) (W' : World), MidS E w i t12 t13 t14 W' → K ⟨(u0 :: u1 :: u2 :: u3 :: u4 :: (.pointer (some ⟨E.bb, 0, none⟩)) :: u6 :: (.pointer (some ⟨E.g, 0, none⟩)) :: u8 :: (.pointer (some ⟨E.tg, 0, none⟩)) :: (.pointer (some ⟨E.ub, 0, none⟩)) :: (.pointer (some ⟨E.db, 0, none⟩)) :: t12 :: t13 :: t14 :: (.int .i64 i) :: u16 :: (.pointer (some ⟨E.db, 0, none⟩)) :: (.int .i64 kk) :: (.int .i64 7) :: t20 :: t21 :: t22 :: t23 :: t24 :: t25 :: u26 :: u27 :: u28 :: u29 :: u30 :: u31 :: u32 :: u33 :: u34 :: u35 :: u36 :: u37 :: u38 :: u39 :: u40 :: u41 :: u42 :: u43 :: u44 :: u45 :: u46 :: u47 :: u48 :: u49 :: u50 :: u51 :: u52 :: u53 :: u54 :: u55 :: u56 :: u57 :: u58 :: u59 :: u60 :: u61 :: u62 :: u63 :: u64 :: u65 :: u66 :: u67 :: u68 :: u69 :: u70 :: u71 :: u72 :: u73 :: u74 :: u75 :: u76 :: u77 :: u78 :: u79 :: u80 :: u81 :: u82 :: u83 :: u84 :: u85 :: u86 :: u87 :: u88 :: u89 :: u90 :: u91 :: u92 :: u93 :: u94 :: u95 :: u96 :: u97 :: u98 :: u99 :: t100 :: t101 :: t102 :: t103 :: t104 :: t105 :: t106 :: t107 :: t108 :: t109 :: t110 :: t111 :: t112 :: t113 :: t114 :: t115 :: t116 :: t117 :: t118 :: t119 :: t120 :: t121 :: t122 :: t123 :: t124 :: t125 :: t126 :: t127 :: t128 :: t129 :: t130 :: t131 :: t132 :: t133 :: t134 :: t135 :: t136 :: t137 :: t138 :: t139 :: t140 :: t141 :: t142 :: t143 :: t144 :: t145 :: t146 :: t147 :: t148 :: t149 :: t150 :: t151 :: t152 :: t153 :: t154 :: t155 :: t156 :: t157 :: t158 :: t159 :: t160 :: t161 :: t162 :: t163 :: t164 :: t165 :: t166 :: t167 :: t168 :: t169 :: t170 :: t171 :: t172 :: t173 :: t174 :: t175 :: t176 :: t177 :: t178 :: t179 :: t180 :: t181 :: t182 :: t183 :: t184 :: t185 :: t186 :: t187 :: t188 :: t189 :: t190 :: t191 :: t192 :: t193 :: t194 :: t195 :: t196 :: t197 :: t198 :: t199 :: t200 :: t201 :: t202 :: t203 :: t204 :: t205 :: t206 :: t207 :: t208 :: t209 :: t210 :: t211 :: t212 :: t213 :: t214 :: t215 :: t216 :: t217 :: t218 :: t219 :: t220 :: t221 :: t222 :: t223 :: t224 :: t225 :: t226 :: t227 :: t228 :: t229 :: t230 :: t231 :: u232 :: u233 :: u234 :: u235 :: u236 :: u237 :: u238 :: u239 :: u240 :: u241 :: u242 :: u243 :: u244 :: u245 :: u246 :: u247 :: u248 :: u249 :: u250 :: u251 :: u252 :: u253 :: u254 :: u255 :: u256 :: u257 :: u258 :: u259 :: u260 :: u261 :: u262 :: u263 :: u264 :: u265 :: u266 :: u267 :: u268 :: u269 :: u270 :: u271 :: u272 :: u273 :: u274 :: u275 :: u276 :: u277 :: List.nil).toArray, []⟩ W')) :
    Code.wp Tryz.prog (tcB 2) (Exit.then K Q') ⟨(u0 :: u1 :: u2 :: u3 :: u4 :: (.pointer (some ⟨E.bb, 0, none⟩)) :: u6 :: (.pointer (some ⟨E.g, 0, none⟩)) :: u8 :: (.pointer (some ⟨E.tg, 0, none⟩)) :: (.pointer (some ⟨E.ub, 0, none⟩)) :: (.pointer (some ⟨E.db, 0, none⟩)) :: v12 :: v13 :: (.int .i64 now) :: (.int .i64 i) :: u16 :: (.pointer (some ⟨E.db, 0, none⟩)) :: (.int .i64 kk) :: (.int .i64 7) :: u20 :: u21 :: u22 :: u23 :: u24 :: u25 :: u26 :: u27 :: u28 :: u29 :: u30 :: u31 :: u32 :: u33 :: u34 :: u35 :: u36 :: u37 :: u38 :: u39 :: u40 :: u41 :: u42 :: u43 :: u44 :: u45 :: u46 :: u47 :: u48 :: u49 :: u50 :: u51 :: u52 :: u53 :: u54 :: u55 :: u56 :: u57 :: u58 :: u59 :: u60 :: u61 :: u62 :: u63 :: u64 :: u65 :: u66 :: u67 :: u68 :: u69 :: u70 :: u71 :: u72 :: u73 :: u74 :: u75 :: u76 :: u77 :: u78 :: u79 :: u80 :: u81 :: u82 :: u83 :: u84 :: u85 :: u86 :: u87 :: u88 :: u89 :: u90 :: u91 :: u92 :: u93 :: u94 :: u95 :: u96 :: u97 :: u98 :: u99 :: u100 :: u101 :: u102 :: u103 :: u104 :: u105 :: u106 :: u107 :: u108 :: u109 :: u110 :: u111 :: u112 :: u113 :: u114 :: u115 :: u116 :: u117 :: u118 :: u119 :: u120 :: u121 :: u122 :: u123 :: u124 :: u125 :: u126 :: u127 :: u128 :: u129 :: u130 :: u131 :: u132 :: u133 :: u134 :: u135 :: u136 :: u137 :: u138 :: u139 :: u140 :: u141 :: u142 :: u143 :: u144 :: u145 :: u146 :: u147 :: u148 :: u149 :: u150 :: u151 :: u152 :: u153 :: u154 :: u155 :: u156 :: u157 :: u158 :: u159 :: u160 :: u161 :: u162 :: u163 :: u164 :: u165 :: u166 :: u167 :: u168 :: u169 :: u170 :: u171 :: u172 :: u173 :: u174 :: u175 :: u176 :: u177 :: u178 :: u179 :: u180 :: u181 :: u182 :: u183 :: u184 :: u185 :: u186 :: u187 :: u188 :: u189 :: u190 :: u191 :: u192 :: u193 :: u194 :: u195 :: u196 :: u197 :: u198 :: u199 :: u200 :: u201 :: u202 :: u203 :: u204 :: u205 :: u206 :: u207 :: u208 :: u209 :: u210 :: u211 :: u212 :: u213 :: u214 :: u215 :: u216 :: u217 :: u218 :: u219 :: u220 :: u221 :: u222 :: u223 :: u224 :: u225 :: u226 :: u227 :: u228 :: u229 :: u230 :: u231 :: u232 :: u233 :: u234 :: u235 :: u236 :: u237 :: u238 :: u239 :: u240 :: u241 :: u242 :: u243 :: u244 :: u245 :: u246 :: u247 :: u248 :: u249 :: u250 :: u251 :: u252 :: u253 :: u254 :: u255 :: u256 :: u257 :: u258 :: u259 :: u260 :: u261 :: u262 :: u263 :: u264 :: u265 :: u266 :: u267 :: u268 :: u269 :: u270 :: u271 :: u272 :: u273 :: u274 :: u275 :: u276 :: u277 :: List.nil).toArray, []⟩ W := by
  refine wp_mono (Q := Exit.then K fun _ _ _ => False) ?_ (fun e a w hq => by cases e <;> first | exact hq | exact hq.elim)
  have HK0 := Asd.mk hK
  clear hK
  have HPx := Asd.mk HPx
  obtain ⟨dA, uA, hd, ⟨uc, u1', u2'⟩, hne⟩ := HPx.out.mem.ml.ex
  have U1 := Asd.mk u1'
  have U2 := Asd.mk u2'
  have HD := Asd.mk (And.intro hd hne)
  have u0 : W.cell? ⟨E.db, 0, none⟩ = some (.slice uA dns.length uc) := (cell_of_row _ _ 0 _ _ _ u1').trans rfl
  have ubl := (Array.getElem?_eq_some_iff.1 u1').1
  have hl1 := HPx.out.dlen
  clear u1' u2' hd hne
  conv => arg 2; whnf
  rcases Nat.eq_zero_or_pos dns.length with hz | hz
  · have FIN := Asd.mk (HPx.out.skip (Below.refl W.heap.size W))
    have hz1 : ((dns.length : Int) == 0) = true := by rw [beq_iff_eq]; omega
    go_wp2_with fail
    apply HK0.out
    exact FIN.out
  · have hz1 : ((dns.length : Int) == 0) = false := by rw [beq_eq_false_iff_ne]; omega
    have hkk := KK hz
    obtain ⟨kn, rfl⟩ : ∃ kn : Nat, kk = kn := ⟨kk.toNat, by omega⟩
    have hkn : kn < dns.length := by omega
    clear KK hkk
    rcases Nat.lt_or_ge dns.length 50 with h50 | h50
    · go_upto_region 45 with fail
      refine copy45q U1.out HPx.out.eo.db1 U2.out HPx.out.mem.b1 hkn hl1 ?_
      intro t219 t220 t221 t222 t223 t224 t225 t226 t227 t228 t229 t230 t231 v9 W9 WX o h1 h2 h3 h4
      have FIN := Asd.mk (HPx.out.copyDn2 (List.getElem_mem hkn) U1.out U2.out HD.out.1 HD.out.2 h1 h2 h3 h4)
      clear h1 h2 h3 h4
      go_wp2_with fail
      apply HK0.out
      exact FIN.out
    · have FIN := Asd.mk (HPx.out.skip (Below.refl W.heap.size W))
      go_wp2_with fail
      apply HK0.out
      exact FIN.out
end Go.Proofs.YtallnibjmffahaaGreatDoor

/- TopClient: what follows the switch: the letters that the client has, what it was told. TopClient: region 53: a letter is taken out of a list. -/
import Derived.Test.YtallnibjmffahaaGreatDoorJ33
import Derived.Deep.CutBlock
import Derived.Test.YtallnibjmffahaaGreatDoorJ32
set_option linter.unusedVariables false
set_option linter.unusedSimpArgs false
namespace Go.Proofs.YtallnibjmffahaaGreatDoor
open Go.RowKit

/-- The sequence that a region begins. -/
def findT (n : Nat) : Code → Option Code
  | .seq (.region k ops d) b => if k = n then some (.seq (.region k ops d) b) else findT n b
  | .seq a b => match findT n a with
    | some c => some c
    | none => findT n b
  | .cond _ a b => match findT n a with
    | some c => some c
    | none => findT n b
  | .block _ c => findT n c
  | .loop c => findT n c
  | .scope c => findT n c
  | _ => none
noncomputable def tcT (n : Nat) : Code := ((Tryz.f3.body.bind (findT n)).getD .skip)
/-- What holds behind the letters. -/
def TPE (E : Env) (w : World) (i : Nat) (v12 v13 v14 : Value) (W : World) : Prop := ∃ now hs os ups dns reps rows x rq s, v14 = .int .i64 now ∧ TP E w i W v12 v13 now hs os ups dns reps rows x rq s
set_option maxHeartbeats 8000000 in
set_option maxRecDepth 100000 in
theorem tail46 {K : Act → World → Prop} {Q' : Exit → Act → World → Prop} {E : Env} {w W : World} {i : Nat} {v12 v13 v14 : Value} (EO' : EnvOk E) (hi : i < 120) (hm : MidS E w i v12 v13 v14 W) {u0 u1 u2 u3 u4 u5 u6 u8 u9 u11 u16 u17 u18 u19 u20 u21 u22 u23 u24 u25 u26 u27 u28 u29 u30 u31 u32 u33 u34 u35 u36 u37 u38 u39 u40 u41 u42 u43 u44 u45 u46 u47 u48 u49 u50 u51 u52 u53 u54 u55 u56 u57 u58 u59 u60 u61 u62 u63 u64 u65 u66 u67 u68 u69 u70 u71 u72 u73 u74 u75 u76 u77 u78 u79 u80 u81 u82 u83 u84 u85 u86 u87 u88 u89 u90 u91 u92 u93 u94 u95 u96 u97 u98 u99 u100 u101 u102 u103 u104 u105 u106 u107 u108 u109 u110 u111 u112 u113 u114 u115 u116 u117 u118 u119 u120 u121 u122 u123 u124 u125 u126 u127 u128 u129 u130 u131 u132 u133 u134 u135 u136 u137 u138 u139 u140 u141 u142 u143 u144 u145 u146 u147 u148 u149 u150 u151 u152 u153 u154 u155 u156 u157 u158 u159 u160 u161 u162 u163 u164 u165 u166 u167 u168 u169 u170 u171 u172 u173 u174 u175 u176 u177 u178 u179 u180 u181 u182 u183 u184 u185 u186 u187 u188 u189 u190 u191 u192 u193 u194 u195 u196 u197 u198 u199 u200 u201 u202 u203 u204 u205 u206 u207 u208 u209 u210 u211 u212 u213 u214 u215 u216 u217 u218 u219 u220 u221 u222 u223 u224 u225 u226 u227 u228 u229 u230 u231 u232 u233 u234 u235 u236 u237 u238 u239 u240 u241 u242 u243 u244 u245 u246 u247 u248 u249 u250 u251 u252 u253 u254 u255 u256 u257 u258 u259 u260 u261 u262 u263 u264 u265 u266 u267 u268 u269 u270 u271 u272 u273 u274 u275 u276 u277 : Value}
    (hK : ∀ (t27 t232 t233 t234 t235 t236 t237 t238 t239 t240 t241 t242 t243 t244 : Value) (W' : World), TPE E w i v12 v13 v14 W' → K ⟨(u0 :: u1 :: u2 :: u3 :: u4 :: u5 :: u6 :: (.pointer (some ⟨E.g, 0, none⟩)) :: u8 :: u9 :: (.pointer (some ⟨E.ub, 0, none⟩)) :: u11 :: v12 :: v13 :: v14 :: (.int .i64 i) :: u16 :: u17 :: u18 :: u19 :: u20 :: u21 :: u22 :: u23 :: u24 :: u25 :: u26 :: t27 :: u28 :: u29 :: u30 :: u31 :: u32 :: u33 :: u34 :: u35 :: u36 :: u37 :: u38 :: u39 :: u40 :: u41 :: u42 :: u43 :: u44 :: u45 :: u46 :: u47 :: u48 :: u49 :: u50 :: u51 :: u52 :: u53 :: u54 :: u55 :: u56 :: u57 :: u58 :: u59 :: u60 :: u61 :: u62 :: u63 :: u64 :: u65 :: u66 :: u67 :: u68 :: u69 :: u70 :: u71 :: u72 :: u73 :: u74 :: u75 :: u76 :: u77 :: u78 :: u79 :: u80 :: u81 :: u82 :: u83 :: u84 :: u85 :: u86 :: u87 :: u88 :: u89 :: u90 :: u91 :: u92 :: u93 :: u94 :: u95 :: u96 :: u97 :: u98 :: u99 :: u100 :: u101 :: u102 :: u103 :: u104 :: u105 :: u106 :: u107 :: u108 :: u109 :: u110 :: u111 :: u112 :: u113 :: u114 :: u115 :: u116 :: u117 :: u118 :: u119 :: u120 :: u121 :: u122 :: u123 :: u124 :: u125 :: u126 :: u127 :: u128 :: u129 :: u130 :: u131 :: u132 :: u133 :: u134 :: u135 :: u136 :: u137 :: u138 :: u139 :: u140 :: u141 :: u142 :: u143 :: u144 :: u145 :: u146 :: u147 :: u148 :: u149 :: u150 :: u151 :: u152 :: u153 :: u154 :: u155 :: u156 :: u157 :: u158 :: u159 :: u160 :: u161 :: u162 :: u163 :: u164 :: u165 :: u166 :: u167 :: u168 :: u169 :: u170 :: u171 :: u172 :: u173 :: u174 :: u175 :: u176 :: u177 :: u178 :: u179 :: u180 :: u181 :: u182 :: u183 :: u184 :: u185 :: u186 :: u187 :: u188 :: u189 :: u190 :: u191 :: u192 :: u193 :: u194 :: u195 :: u196 :: u197 :: u198 :: u199 :: u200 :: u201 :: u202 :: u203 :: u204 :: u205 :: u206 :: u207 :: u208 :: u209 :: u210 :: u211 :: u212 :: u213 :: u214 :: u215 :: u216 :: u217 :: u218 :: u219 :: u220 :: u221 :: u222 :: u223 :: u224 :: u225 :: u226 :: u227 :: u228 :: u229 :: u230 :: u231 :: t232 :: t233 :: t234 :: t235 :: t236 :: t237 :: t238 :: t239 :: t240 :: t241 :: t242 :: t243 :: t244 :: u245 :: u246 :: u247 :: u248 :: u249 :: u250 :: u251 :: u252 :: u253 :: u254 :: u255 :: u256 :: u257 :: u258 :: u259 :: u260 :: u261 :: u262 :: u263 :: u264 :: u265 :: u266 :: u267 :: u268 :: u269 :: u270 :: u271 :: u272 :: u273 :: u274 :: u275 :: u276 :: u277 :: List.nil).toArray, []⟩ W') :
    Code.wp Tryz.prog (tcT 46) (Exit.then K Q') ⟨(u0 :: u1 :: u2 :: u3 :: u4 :: u5 :: u6 :: (.pointer (some ⟨E.g, 0, none⟩)) :: u8 :: u9 :: (.pointer (some ⟨E.ub, 0, none⟩)) :: u11 :: v12 :: v13 :: v14 :: (.int .i64 i) :: u16 :: u17 :: u18 :: u19 :: u20 :: u21 :: u22 :: u23 :: u24 :: u25 :: u26 :: u27 :: u28 :: u29 :: u30 :: u31 :: u32 :: u33 :: u34 :: u35 :: u36 :: u37 :: u38 :: u39 :: u40 :: u41 :: u42 :: u43 :: u44 :: u45 :: u46 :: u47 :: u48 :: u49 :: u50 :: u51 :: u52 :: u53 :: u54 :: u55 :: u56 :: u57 :: u58 :: u59 :: u60 :: u61 :: u62 :: u63 :: u64 :: u65 :: u66 :: u67 :: u68 :: u69 :: u70 :: u71 :: u72 :: u73 :: u74 :: u75 :: u76 :: u77 :: u78 :: u79 :: u80 :: u81 :: u82 :: u83 :: u84 :: u85 :: u86 :: u87 :: u88 :: u89 :: u90 :: u91 :: u92 :: u93 :: u94 :: u95 :: u96 :: u97 :: u98 :: u99 :: u100 :: u101 :: u102 :: u103 :: u104 :: u105 :: u106 :: u107 :: u108 :: u109 :: u110 :: u111 :: u112 :: u113 :: u114 :: u115 :: u116 :: u117 :: u118 :: u119 :: u120 :: u121 :: u122 :: u123 :: u124 :: u125 :: u126 :: u127 :: u128 :: u129 :: u130 :: u131 :: u132 :: u133 :: u134 :: u135 :: u136 :: u137 :: u138 :: u139 :: u140 :: u141 :: u142 :: u143 :: u144 :: u145 :: u146 :: u147 :: u148 :: u149 :: u150 :: u151 :: u152 :: u153 :: u154 :: u155 :: u156 :: u157 :: u158 :: u159 :: u160 :: u161 :: u162 :: u163 :: u164 :: u165 :: u166 :: u167 :: u168 :: u169 :: u170 :: u171 :: u172 :: u173 :: u174 :: u175 :: u176 :: u177 :: u178 :: u179 :: u180 :: u181 :: u182 :: u183 :: u184 :: u185 :: u186 :: u187 :: u188 :: u189 :: u190 :: u191 :: u192 :: u193 :: u194 :: u195 :: u196 :: u197 :: u198 :: u199 :: u200 :: u201 :: u202 :: u203 :: u204 :: u205 :: u206 :: u207 :: u208 :: u209 :: u210 :: u211 :: u212 :: u213 :: u214 :: u215 :: u216 :: u217 :: u218 :: u219 :: u220 :: u221 :: u222 :: u223 :: u224 :: u225 :: u226 :: u227 :: u228 :: u229 :: u230 :: u231 :: u232 :: u233 :: u234 :: u235 :: u236 :: u237 :: u238 :: u239 :: u240 :: u241 :: u242 :: u243 :: u244 :: u245 :: u246 :: u247 :: u248 :: u249 :: u250 :: u251 :: u252 :: u253 :: u254 :: u255 :: u256 :: u257 :: u258 :: u259 :: u260 :: u261 :: u262 :: u263 :: u264 :: u265 :: u266 :: u267 :: u268 :: u269 :: u270 :: u271 :: u272 :: u273 :: u274 :: u275 :: u276 :: u277 :: List.nil).toArray, []⟩ W := by
  refine wp_mono (Q := Exit.then K fun _ _ _ => False) ?_ (fun e a w hq => by cases e <;> first | exact hq | exact hq.elim)
  have HK0 := Asd.mk hK
  have EO := Asd.mk EO'
  clear hK EO'
  obtain ⟨now', hs', os', ups', dns', reps', rows', x', rq', s', outL, rfl, hn1, hn2, hm', hpi', hul, hcp', ⟨ho1, ho2, ho3⟩, houts, hrep, hbw'⟩ := hm
  have M1 := Asd.mk hm'
  have P1 := Asd.mk hpi'
  have C1 := Asd.mk hcp'
  have U1 := Asd.mk (And.intro hul houts)
  have N1 := Asd.mk (And.intro hn1 hn2)
  have R1 := Asd.mk hrep
  have O1 := Asd.mk ho2
  have LT' := Letters_calls hm'.mc.at_
  rw [ho1] at ho3 LT'
  generalize x'.oA = OA at ho3 LT'
  generalize x'.oc = OC at ho3 LT'
  have LT := Asd.mk LT'
  have LR := Asd.mk ho3
  have BW1 := Asd.mk hbw'
  clear hm' hpi' hul hcp' ho1 ho2 ho3 houts hrep hbw' LT' hn1 hn2
  conv => arg 2; whnf
  go_wp2_with fail
  refine LT.out.mono ?_
  rintro e w7 ⟨rfl, hc7, hg7⟩
  have K7' : Ko [74] false E.B0 W w7 := Ko.of_gb hg7 M1.out.mc.at_ rfl EO.out.g0
  have M7 : Asd (Mem E { x' with oA := none, on := 0, oc := 0 } rq' s' reps' rows' (ups' ++ outL.take 0) dns' v12 hs' v13 os' w7) := ⟨by
    rw [List.take_zero, List.append_nil]
    exact ⟨⟨hc7, M1.out.mc.one.keep (by obtain ⟨cs, of', _, hb, _⟩ := M1.out.mc.one; rw [K7'.blk hb rfl, hb]), fun hw => ⟨K7'.rd (M1.out.mc.req hw).rd rfl (Nat.le_refl _), (M1.out.mc.req hw).fits, (M1.out.mc.req hw).ok, (M1.out.mc.req hw).enc, (M1.out.mc.req hw).small⟩⟩, M1.out.mbk.ko K7' rfl rfl rfl rfl rfl (Nat.le_refl _), M1.out.ml.ko K7' rfl rfl, M1.out.mh.ko K7' rfl rfl rfl rfl (Nat.le_refl _), M1.out.mo.ko K7' rfl, Nat.le_trans M1.out.b1 K7'.size⟩⟩
  have L7 := Asd.mk (K7'.rd LR.out rfl (Nat.le_refl _))
  have R7 : Asd (RepIs E.B0 w7 x' hs' os') := ⟨fun ht => by
    obtain ⟨r1, r2, r3, r4⟩ := R1.out ht
    exact ⟨r1, r2, r3, r4.imp id fun ⟨rs, q1, q2, q3⟩ => ⟨rs, q1, K7'.rd q2 rfl (Nat.le_refl _), q3⟩⟩⟩
  have BW7 := Asd.mk (BW1.out.trans K7'.below)
  clear hc7 hg7 K7' LT LR R1 BW1 M1
  go_wp2_with fail
  go_loopw [235] (fun s235 wr => ∃ q : Nat, s235 = .int .i64 q ∧ q ≤ outL.length ∧ Asd (Mem E { x' with oA := none, on := 0, oc := 0 } rq' s' reps' rows' (ups' ++ outL.take q) dns' v12 hs' v13 os' wr) ∧ Asd (Rd E.B0 61 wr 2 OA outL.length OC (outL.flatMap fun b => [.int .i64 0, .string b])) ∧ Asd (RepIs E.B0 wr x' hs' os') ∧ Asd (Below E.B0 w wr)) (fun s235 _ => outL.length - (intOf s235).toNat)
  case atStart => exact ⟨0, rfl, Nat.zero_le _, M7, L7, R7, BW7⟩
  case round =>
    clear M7 L7 R7 BW7
    obtain ⟨q, rfl, hq, M8, L8, R8, BW8⟩ := hrel
    have hol : outL.length ≤ 1000 := Nat.le_trans O1.out (by decide)
    rcases Nat.lt_or_ge q outL.length with hql | hql
    · as_aux_lemma =>
      obtain ⟨lb2, lo2, rfl, hbl2, hil2, hcs2⟩ := L8.out.at_enc (enc := fun b : ByteArray => [.int .i64 0, .string b]) (fun _ => rfl) (by omega) hql
      have hcap2 : q < OC := Nat.lt_of_lt_of_le hql L8.out.cap
      have TK2 : Asd (outL.take (q + 1) = outL.take q ++ [outL[q]]) := ⟨List.take_succ_eq_append_getElem hql⟩
      generalize outL[q] = sb at hcs2 TK2
      have g0 := hcs2 0 _ rfl
      have g1 := hcs2 1 _ rfl
      rw [Nat.add_zero] at g0
      clear hcs2
      go_upto_region 49 with fail
      have al8 := (Below.refl wr.heap.size wr).alloc (Nat.le_refl _) (.cells #[.int .i64 0, .string sb] 61)
      have n1 : (wr.alloc (.cells #[.int .i64 0, .string sb] 61)).cell? ⟨wr.heap.size, 1, none⟩ = some (.string sb) := (cell_of_row _ _ 1 _ _ _ (heap_alloc_new wr _)).trans rfl
      have nl : wr.heap.size < (wr.alloc (.cells #[.int .i64 0, .string sb] 61)).heap.size := by simp
      have M9 := Asd.mk (M8.out.below al8 EO.out.le)
      have L9 := Asd.mk (L8.out.below al8)
      have R9 : Asd (RepIs E.B0 (wr.alloc (.cells #[.int .i64 0, .string sb] 61)) x' hs' os') := ⟨R8.out.ko (Ko.of_below (S := []) (m := false) al8 (Nat.le_trans EO.out.le M8.out.b1)) rfl (Nat.le_refl _)⟩
      have W9' := Asd.mk (BW8.out.trans (al8.mono (Nat.le_trans EO.out.le M8.out.b1)))
      clear al8 g0 g1 M8 L8 R8 BW8 hbl2
      obtain ⟨uA, dA, ⟨uc, u1, u2⟩, hdb, hne⟩ := M9.out.ml.ex
      have ul8 : (ups' ++ outL.take q).length ≤ 1000 := by
        have h1 := P1.out.ul
        have h2 := O1.out
        rw [List.length_append, List.length_take]
        omega
      refine lett49 EO.out u1 u2 M9.out.b1 ul8 n1 nl ?_
      intro t239 t240 t241 t242 t243 v9 W9 o h1 h2 h3
      have FIN := Asd.mk (M9.out.addUp EO.out u1 u2 hdb hne h1 h2 h3)
      have M10 : Asd (Mem E { x' with oA := none, on := 0, oc := 0 } rq' s' reps' rows' (ups' ++ outL.take (q + 1)) dns' v12 hs' v13 os' (W9.setCell ⟨E.ub, 0, none⟩ v9)) := ⟨by
        rw [TK2.out, ← List.append_assoc]
        exact FIN.out.1⟩
      have L10 := Asd.mk (FIN.out.2.rd L9.out rfl (Nat.le_refl _))
      have R10 := Asd.mk (R9.out.ko FIN.out.2 rfl (Nat.le_refl _))
      have W10 := Asd.mk (W9'.out.trans FIN.out.2.below)
      clear FIN h1 h2 h3 u1 u2 hdb hne n1 nl M9 L9 R9 W9'
      go_wp2_with fail
      go_roundw
      case measure => simp [intOf]; omega
      case rel => exact ⟨q + 1, by go_num, by omega, M10, L10, R10, W10⟩
    · as_aux_lemma =>
      have hq2 : q = outL.length := by omega
      have TPX : Asd (TP E w i wr v12 v13 now' hs' os' (ups' ++ outL) dns' reps' rows' { x' with oA := none, on := 0, oc := 0 } rq' s') := ⟨⟨EO.out, by have h := M8.out; rw [hq2, List.take_of_length_le (Nat.le_refl _)] at h; exact h, tail_pi P1.out U1.out.1 U1.out.2 O1.out, ⟨C1.out.sent, C1.out.tried, C1.out.now0, C1.out.seq, C1.out.req⟩, fun ht => R8.out ht, ⟨rfl, rfl, rfl⟩, N1.out.1, N1.out.2, BW8.out⟩⟩
      clear M8 L8 R8 BW8 P1 C1 U1 O1
      go_wp2_with fail
      apply HK0.out
      exact ⟨_, _, _, _, _, _, _, _, _, _, rfl, TPX.out⟩
end Go.Proofs.YtallnibjmffahaaGreatDoor

set_option linter.unusedVariables false
set_option linter.unusedSimpArgs false
namespace Go.Proofs.YtallnibjmffahaaGreatDoor
open Go.RowKit

set_option maxHeartbeats 4000000 in
set_option maxRecDepth 100000 in
/-- Region 53: a reply is noted in the history. -/
theorem tell53 {K : Act → World → Prop} {Q' : Exit → Act → World → Prop} {W : World} {pb hB hC B1 n kk i pn pc : Nat} {pA : Option Addr} {pat pcode : Int} {xs : List Value} (hp : W.heap[pb]? = some (.cells #[.int .i64 7, .int .i64 ((kk : Int) + 1), .slice pA pn pc, .int .i64 pat, .int .i64 pcode] 51 (0, 0))) (ho : W.ownsRow B1 53 10 (.slice (some ⟨hB, 0, none⟩) n hC) n xs) (hk : kk < n) (hn : n ≤ 1000) (hi : i < 120) {u0 u1 u2 u3 u4 u5 u6 u7 u8 u9 u10 u11 u13 u14 u16 u17 u18 u19 u20 u21 u22 u23 u24 u25 u26 u27 u29 u30 u31 u32 u33 u34 u35 u36 u37 u38 u39 u40 u41 u42 u43 u44 u45 u46 u47 u48 u49 u50 u51 u52 u53 u54 u55 u56 u57 u58 u59 u60 u61 u62 u63 u64 u65 u66 u67 u68 u69 u70 u71 u72 u73 u74 u75 u76 u77 u78 u79 u80 u81 u82 u83 u84 u85 u86 u87 u88 u89 u90 u91 u92 u93 u94 u95 u96 u97 u98 u99 u100 u101 u102 u103 u104 u105 u106 u107 u108 u109 u110 u111 u112 u113 u114 u115 u116 u117 u118 u119 u120 u121 u122 u123 u124 u125 u126 u127 u128 u129 u130 u131 u132 u133 u134 u135 u136 u137 u138 u139 u140 u141 u142 u143 u144 u145 u146 u147 u148 u149 u150 u151 u152 u153 u154 u155 u156 u157 u158 u159 u160 u161 u162 u163 u164 u165 u166 u167 u168 u169 u170 u171 u172 u173 u174 u175 u176 u177 u178 u179 u180 u181 u182 u183 u184 u185 u186 u187 u188 u189 u190 u191 u192 u193 u194 u195 u196 u197 u198 u199 u200 u201 u202 u203 u204 u205 u206 u207 u208 u209 u210 u211 u212 u213 u214 u215 u216 u217 u218 u219 u220 u221 u222 u223 u224 u225 u226 u227 u228 u229 u230 u231 u232 u233 u234 u235 u236 u237 u238 u239 u240 u241 u242 u243 u244 u245 u246 u247 u248 u249 u250 u251 u252 u253 u254 u255 u256 u257 u258 u259 u260 u261 u262 u263 u264 u265 u266 u267 u268 u269 u270 u271 u272 u273 u274 u275 u276 u277 : Value}
    (hK : ∀ (t258 t259 t260 t261 t262 t263 t264 t265 t266 t267 t268 t269 t270 t271 t272 : Value) (WX : World), Below (tellW W hB kk ((i : Int) + 1) ((kk : Int) + 1) pat pcode pA pn pc).heap.size (tellW W hB kk ((i : Int) + 1) ((kk : Int) + 1) pat pcode pA pn pc) WX → K ⟨(u0 :: u1 :: u2 :: u3 :: u4 :: u5 :: u6 :: u7 :: u8 :: u9 :: u10 :: u11 :: (.slice (some ⟨hB, 0, none⟩) n hC) :: u13 :: u14 :: (.int .i64 i) :: u16 :: u17 :: u18 :: u19 :: u20 :: u21 :: u22 :: u23 :: u24 :: u25 :: u26 :: u27 :: (.pointer (some ⟨pb, 0, none⟩)) :: u29 :: u30 :: u31 :: u32 :: u33 :: u34 :: u35 :: u36 :: u37 :: u38 :: u39 :: u40 :: u41 :: u42 :: u43 :: u44 :: u45 :: u46 :: u47 :: u48 :: u49 :: u50 :: u51 :: u52 :: u53 :: u54 :: u55 :: u56 :: u57 :: u58 :: u59 :: u60 :: u61 :: u62 :: u63 :: u64 :: u65 :: u66 :: u67 :: u68 :: u69 :: u70 :: u71 :: u72 :: u73 :: u74 :: u75 :: u76 :: u77 :: u78 :: u79 :: u80 :: u81 :: u82 :: u83 :: u84 :: u85 :: u86 :: u87 :: u88 :: u89 :: u90 :: u91 :: u92 :: u93 :: u94 :: u95 :: u96 :: u97 :: u98 :: u99 :: u100 :: u101 :: u102 :: u103 :: u104 :: u105 :: u106 :: u107 :: u108 :: u109 :: u110 :: u111 :: u112 :: u113 :: u114 :: u115 :: u116 :: u117 :: u118 :: u119 :: u120 :: u121 :: u122 :: u123 :: u124 :: u125 :: u126 :: u127 :: u128 :: u129 :: u130 :: u131 :: u132 :: u133 :: u134 :: u135 :: u136 :: u137 :: u138 :: u139 :: u140 :: u141 :: u142 :: u143 :: u144 :: u145 :: u146 :: u147 :: u148 :: u149 :: u150 :: u151 :: u152 :: u153 :: u154 :: u155 :: u156 :: u157 :: u158 :: u159 :: u160 :: u161 :: u162 :: u163 :: u164 :: u165 :: u166 :: u167 :: u168 :: u169 :: u170 :: u171 :: u172 :: u173 :: u174 :: u175 :: u176 :: u177 :: u178 :: u179 :: u180 :: u181 :: u182 :: u183 :: u184 :: u185 :: u186 :: u187 :: u188 :: u189 :: u190 :: u191 :: u192 :: u193 :: u194 :: u195 :: u196 :: u197 :: u198 :: u199 :: u200 :: u201 :: u202 :: u203 :: u204 :: u205 :: u206 :: u207 :: u208 :: u209 :: u210 :: u211 :: u212 :: u213 :: u214 :: u215 :: u216 :: u217 :: u218 :: u219 :: u220 :: u221 :: u222 :: u223 :: u224 :: u225 :: u226 :: u227 :: u228 :: u229 :: u230 :: u231 :: u232 :: u233 :: u234 :: u235 :: u236 :: u237 :: u238 :: u239 :: u240 :: u241 :: u242 :: u243 :: u244 :: u245 :: u246 :: u247 :: u248 :: u249 :: u250 :: u251 :: u252 :: u253 :: u254 :: u255 :: u256 :: u257 :: t258 :: t259 :: t260 :: t261 :: t262 :: t263 :: t264 :: t265 :: t266 :: t267 :: t268 :: t269 :: t270 :: t271 :: t272 :: u273 :: u274 :: u275 :: u276 :: u277 :: List.nil).toArray, []⟩ WX) :
    Code.wp Tryz.prog (tcR 53) (Exit.then K Q') ⟨(u0 :: u1 :: u2 :: u3 :: u4 :: u5 :: u6 :: u7 :: u8 :: u9 :: u10 :: u11 :: (.slice (some ⟨hB, 0, none⟩) n hC) :: u13 :: u14 :: (.int .i64 i) :: u16 :: u17 :: u18 :: u19 :: u20 :: u21 :: u22 :: u23 :: u24 :: u25 :: u26 :: u27 :: (.pointer (some ⟨pb, 0, none⟩)) :: u29 :: u30 :: u31 :: u32 :: u33 :: u34 :: u35 :: u36 :: u37 :: u38 :: u39 :: u40 :: u41 :: u42 :: u43 :: u44 :: u45 :: u46 :: u47 :: u48 :: u49 :: u50 :: u51 :: u52 :: u53 :: u54 :: u55 :: u56 :: u57 :: u58 :: u59 :: u60 :: u61 :: u62 :: u63 :: u64 :: u65 :: u66 :: u67 :: u68 :: u69 :: u70 :: u71 :: u72 :: u73 :: u74 :: u75 :: u76 :: u77 :: u78 :: u79 :: u80 :: u81 :: u82 :: u83 :: u84 :: u85 :: u86 :: u87 :: u88 :: u89 :: u90 :: u91 :: u92 :: u93 :: u94 :: u95 :: u96 :: u97 :: u98 :: u99 :: u100 :: u101 :: u102 :: u103 :: u104 :: u105 :: u106 :: u107 :: u108 :: u109 :: u110 :: u111 :: u112 :: u113 :: u114 :: u115 :: u116 :: u117 :: u118 :: u119 :: u120 :: u121 :: u122 :: u123 :: u124 :: u125 :: u126 :: u127 :: u128 :: u129 :: u130 :: u131 :: u132 :: u133 :: u134 :: u135 :: u136 :: u137 :: u138 :: u139 :: u140 :: u141 :: u142 :: u143 :: u144 :: u145 :: u146 :: u147 :: u148 :: u149 :: u150 :: u151 :: u152 :: u153 :: u154 :: u155 :: u156 :: u157 :: u158 :: u159 :: u160 :: u161 :: u162 :: u163 :: u164 :: u165 :: u166 :: u167 :: u168 :: u169 :: u170 :: u171 :: u172 :: u173 :: u174 :: u175 :: u176 :: u177 :: u178 :: u179 :: u180 :: u181 :: u182 :: u183 :: u184 :: u185 :: u186 :: u187 :: u188 :: u189 :: u190 :: u191 :: u192 :: u193 :: u194 :: u195 :: u196 :: u197 :: u198 :: u199 :: u200 :: u201 :: u202 :: u203 :: u204 :: u205 :: u206 :: u207 :: u208 :: u209 :: u210 :: u211 :: u212 :: u213 :: u214 :: u215 :: u216 :: u217 :: u218 :: u219 :: u220 :: u221 :: u222 :: u223 :: u224 :: u225 :: u226 :: u227 :: u228 :: u229 :: u230 :: u231 :: u232 :: u233 :: u234 :: u235 :: u236 :: u237 :: u238 :: u239 :: u240 :: u241 :: u242 :: u243 :: u244 :: u245 :: u246 :: u247 :: u248 :: u249 :: u250 :: u251 :: u252 :: u253 :: u254 :: u255 :: u256 :: u257 :: u258 :: u259 :: u260 :: u261 :: u262 :: u263 :: u264 :: u265 :: u266 :: u267 :: u268 :: u269 :: u270 :: u271 :: u272 :: u273 :: u274 :: u275 :: u276 :: u277 :: List.nil).toArray, []⟩ W := by
  refine wp_mono (Q := Exit.then K fun _ _ _ => False) ?_ (fun e a w hq => by cases e <;> first | exact hq | exact hq.elim)
  conv => arg 2; whnf
  have HK0 := Asd.mk hK
  clear hK
  have hcs : ∀ j u, (#[.int .i64 7, .int .i64 ((kk : Int) + 1), .slice pA pn pc, .int .i64 pat, .int .i64 pcode] : Array Value)[j]? = some u → W.cell? ⟨pb, j, none⟩ = some u := fun j u hu => (cell_of_row _ _ j _ _ _ hp).trans hu
  have p0 := hcs 0 _ rfl
  have p1 := hcs 1 _ rfl
  have p2 := hcs 2 _ rfl
  have p3 := hcs 3 _ rfl
  have p4 := hcs 4 _ rfl
  have hne : ¬ pb = hB := fun e => by
    obtain ⟨⟨cs, fr, hc⟩, _⟩ := own_isT ho
    rw [← e, hp] at hc
    injection hc with hc
    injection hc with _ hc
    exact absurd hc (by decide)
  have hne2 : ¬ hB = pb := fun e => hne e.symm
  have hl1 := ho.1
  have cell : ∀ j, j < n * 10 → ∃ u, W.cell? ⟨hB, j, none⟩ = some u := fun j hj => ⟨xs[j]'(by omega), own_cellR ho (List.getElem?_eq_getElem (by omega))⟩
  obtain ⟨c1, k1⟩ := cell (kk * 10 + 1) (by omega)
  obtain ⟨c5, k5⟩ := cell (kk * 10 + 5) (by omega)
  obtain ⟨c6, k6⟩ := cell (kk * 10 + 6) (by omega)
  obtain ⟨c7, k7⟩ := cell (kk * 10 + 7) (by omega)
  obtain ⟨c8, k8⟩ := cell (kk * 10 + 8) (by omega)
  obtain ⟨c9, k9⟩ := cell (kk * 10 + 9) (by omega)
  have f1 := own_frozenR ho (kk * 10 + 1)
  have f5 := own_frozenR ho (kk * 10 + 5)
  have f6 := own_frozenR ho (kk * 10 + 6)
  have f7 := own_frozenR ho (kk * 10 + 7)
  have f8 := own_frozenR ho (kk * 10 + 8)
  have f9 := own_frozenR ho (kk * 10 + 9)
  have hcap : n ≤ hC := by
    obtain ⟨A', c', e, hr⟩ := Rd.of_own (base := 0) ho
    injection e with e1 _ e3
    subst e1 e3
    exact hr.cap
  have hw1 : IntKind.i64.wrap (kk : Int) = (kk : Int) := IntWalk.i64_in _ (by omega)
  have hw2 : IntKind.i64.wrap ((i : Int) + 1) = (i : Int) + 1 := IntWalk.i64_in _ (by omega)
  have hs1 : (0 : Int) ≤ (kk : Int) ∧ (kk : Int) < (n : Int) ∧ (kk : Int) < (hC : Int) := by omega
  have hs2 : kk < n ∧ kk < hC := by omega
  clear hp hcs cell ho hl1
  go_region
  all_goals
    refine HK0.out _ _ _ _ _ _ _ _ _ _ _ _ _ _ _ _ ?_
    clear HK0
    rw [show kk * 10 + 5 + 1 = kk * 10 + 6 from rfl, show kk * 10 + 5 + 2 = kk * 10 + 7 from rfl, show kk * 10 + 5 + 3 = kk * 10 + 8 from rfl, show kk * 10 + 5 + 4 = kk * 10 + 9 from rfl]
    exact (Below.refl _ (tellW W hB kk ((i : Int) + 1) ((kk : Int) + 1) pat pcode pA pn pc)).drew
end Go.Proofs.YtallnibjmffahaaGreatDoor

/-
  The reference's Blocks: its loops. Condition: the layer lies in memory.
-/
import Derived.Test.YtglkdhodpgnlgaaRbP
import Derived.Test.YtglkdhodpgnlgaaLayCol
namespace Go.Proofs.Ytglkdhodpgnlgaa
open Go.RowKit Go.Tel

set_option maxRecDepth 1000000 in
set_option maxHeartbeats 8000000 in
theorem rlines_loop {wr : World} {bp bt bi ci : Nat} {X : Nat → Prop} {inn : List Tok} {t : Tok} {S : RS} {R : Option RS} (h : Rl wr bp X S) (hX : X bt) (hB : wr.heap[bt]? = some (tokObj t)) (hn : 0 < S.stk.length) (HR : Hid (RS.lines t (S.stk.length + 1) S = R))
    (c1 c2 c3 c4 c6 c7 c9 c10 c11 c12 c13 c14 c15 c16 c17 c18 c19 c20 c21 c22 c23 c24 c25 c26 c27 c28 c29 c30 c31 c32 c33 c34 c35 c36 c37 c38 c39 c40 c41 c42 c43 c44 c45 c46 c47 c48 c49 c50 c51 c52 c53 c54 c55 c56 c57 c58 c59 c60 c61 c62 c63 c64 c65 c66 c67 c68 c69 c70 c71 c72 c73 c74 c75 c76 c77 c78 c79 c80 c81 c82 c83 c84 c85 c86 c87 c88 c89 c90 c91 c92 c93 c94 c95 c96 c97 c98 c99 c100 c101 c102 c103 c104 c105 c106 c107 c108 c109 c110 c111 c112 c113 c114 c115 c116 c117 c118 c119 c120 c121 c122 c123 c124 c125 c126 c127 c128 c129 c130 c131 c132 c133 c134 c135 c136 c137 c138 c139 c140 c141 c142 c143 c144 c145 c146 c147 c148 c149 c150 c151 c152 c153 c154 c155 c156 c157 c158 c159 c160 c161 c162 c163 c164 c165 c166 c167 c168 c169 c170 c171 c172 c173 c174 c175 c176 c177 c178 c179 c180 c181 c182 c183 c184 c185 c186 c187 c188 c189 c190 c191 c192 c193 c194 c195 c196 c197 c198 c199 c200 c201 c202 c203 c204 c205 c206 c207 c208 c209 c210 c211 c212 c213 c214 c215 c216 c217 c218 c219 c220 c221 c222 c223 c224 c225 c226 c227 c228 c229 c230 c231 c232 c233 c234 c235 c236 c237 c238 c239 c240 c241 c242 c243 c244 c245 c246 c247 c248 c249 c250 c251 c252 c253 c254 c255 c256 c257 c258 c259 c260 c261 c262 c263 c264 c265 c266 c267 c268 c269 c270 c271 c272 c273 c274 c275 c276 c277 c278 c279 c280 c281 c282 c283 c284 c285 c286 c287 c288 c289 c290 c291 c292 c293 c294 c295 c296 c297 c298 c299 c300 c301 c302 c303 c304 c305 c306 c307 c308 c309 c310 c311 c312 c313 c314 c315 c316 c317 c318 c319 c320 c321 c322 c323 c324 c325 c326 c327 c328 c329 c330 c331 c332 c333 c334 c335 c336 c337 c338 c339 c340 c341 c342 c343 c344 c345 c346 c347 c348 c349 c350 c351 c352 c353 c354 c355 c356 c357 c358 c359 c360 c361 c362 c363 c364 c365 c366 c367 c368 c369 c370 c371 c372 c373 c374 : Value) (Q0 : Exit → Act → World → Prop)
    (hexit : ∀ (u2 u3 u4 u9 u135 u136 u137 u138 u139 u140 u141 u142 u143 u144 u145 u146 u147 u148 u149 u150 u151 u152 u153 u154 u155 u156 u157 u158 u159 u160 u161 u162 u163 u164 u165 u166 u167 u168 u169 u170 u171 u172 u173 u174 u175 u176 u177 u178 u179 u180 u181 u182 u183 u184 u185 u186 u187 u188 u189 u190 : Value) (w' : World) (S1 : RS), R = some S1 → Rl w' bp X S1 → Keep X wr w' → Q0 (.exit 4) ⟨(Value.slice (some ⟨bi, 0, none⟩) inn.length ci :: c1 :: u2 :: u3 :: u4 :: Value.pointer (some ⟨bp, 0, none⟩) :: c6 :: c7 :: Value.pointer (some ⟨bt, 0, none⟩) :: u9 :: c10 :: c11 :: c12 :: c13 :: c14 :: c15 :: c16 :: c17 :: c18 :: c19 :: c20 :: c21 :: c22 :: c23 :: c24 :: c25 :: c26 :: c27 :: c28 :: c29 :: c30 :: c31 :: c32 :: c33 :: c34 :: c35 :: c36 :: c37 :: c38 :: c39 :: c40 :: c41 :: c42 :: c43 :: c44 :: c45 :: c46 :: c47 :: c48 :: c49 :: c50 :: c51 :: c52 :: c53 :: c54 :: c55 :: c56 :: c57 :: c58 :: c59 :: c60 :: c61 :: c62 :: c63 :: c64 :: c65 :: c66 :: c67 :: c68 :: c69 :: c70 :: c71 :: c72 :: c73 :: c74 :: c75 :: c76 :: c77 :: c78 :: c79 :: c80 :: c81 :: c82 :: c83 :: c84 :: c85 :: c86 :: c87 :: c88 :: c89 :: c90 :: c91 :: c92 :: c93 :: c94 :: c95 :: c96 :: c97 :: c98 :: c99 :: c100 :: c101 :: c102 :: c103 :: c104 :: c105 :: c106 :: c107 :: c108 :: c109 :: c110 :: c111 :: c112 :: c113 :: c114 :: c115 :: c116 :: c117 :: c118 :: c119 :: c120 :: c121 :: c122 :: c123 :: c124 :: c125 :: c126 :: c127 :: c128 :: c129 :: c130 :: c131 :: c132 :: c133 :: c134 :: u135 :: u136 :: u137 :: u138 :: u139 :: u140 :: u141 :: u142 :: u143 :: u144 :: u145 :: u146 :: u147 :: u148 :: u149 :: u150 :: u151 :: u152 :: u153 :: u154 :: u155 :: u156 :: u157 :: u158 :: u159 :: u160 :: u161 :: u162 :: u163 :: u164 :: u165 :: u166 :: u167 :: u168 :: u169 :: u170 :: u171 :: u172 :: u173 :: u174 :: u175 :: u176 :: u177 :: u178 :: u179 :: u180 :: u181 :: u182 :: u183 :: u184 :: u185 :: u186 :: u187 :: u188 :: u189 :: u190 :: c191 :: c192 :: c193 :: c194 :: c195 :: c196 :: c197 :: c198 :: c199 :: c200 :: c201 :: c202 :: c203 :: c204 :: c205 :: c206 :: c207 :: c208 :: c209 :: c210 :: c211 :: c212 :: c213 :: c214 :: c215 :: c216 :: c217 :: c218 :: c219 :: c220 :: c221 :: c222 :: c223 :: c224 :: c225 :: c226 :: c227 :: c228 :: c229 :: c230 :: c231 :: c232 :: c233 :: c234 :: c235 :: c236 :: c237 :: c238 :: c239 :: c240 :: c241 :: c242 :: c243 :: c244 :: c245 :: c246 :: c247 :: c248 :: c249 :: c250 :: c251 :: c252 :: c253 :: c254 :: c255 :: c256 :: c257 :: c258 :: c259 :: c260 :: c261 :: c262 :: c263 :: c264 :: c265 :: c266 :: c267 :: c268 :: c269 :: c270 :: c271 :: c272 :: c273 :: c274 :: c275 :: c276 :: c277 :: c278 :: c279 :: c280 :: c281 :: c282 :: c283 :: c284 :: c285 :: c286 :: c287 :: c288 :: c289 :: c290 :: c291 :: c292 :: c293 :: c294 :: c295 :: c296 :: c297 :: c298 :: c299 :: c300 :: c301 :: c302 :: c303 :: c304 :: c305 :: c306 :: c307 :: c308 :: c309 :: c310 :: c311 :: c312 :: c313 :: c314 :: c315 :: c316 :: c317 :: c318 :: c319 :: c320 :: c321 :: c322 :: c323 :: c324 :: c325 :: c326 :: c327 :: c328 :: c329 :: c330 :: c331 :: c332 :: c333 :: c334 :: c335 :: c336 :: c337 :: c338 :: c339 :: c340 :: c341 :: c342 :: c343 :: c344 :: c345 :: c346 :: c347 :: c348 :: c349 :: c350 :: c351 :: c352 :: c353 :: c354 :: c355 :: c356 :: c357 :: c358 :: c359 :: c360 :: c361 :: c362 :: c363 :: c364 :: c365 :: c366 :: c367 :: c368 :: c369 :: c370 :: c371 :: c372 :: c373 :: c374 :: []).toArray, []⟩ w')
    (hret : ∀ (u9 u135 u136 u137 u138 u139 u140 u141 u142 u143 u144 u145 u146 u147 u148 u149 u150 u151 u152 u153 u154 u155 u156 u157 u158 u159 u160 u161 u162 u163 u164 u165 u166 u167 u168 u169 u170 u171 u172 u173 u174 u175 u176 u177 u178 u179 u180 u181 u182 u183 u184 u185 u186 u187 u188 u189 u190 : Value) (w' : World), R = none → Keep X wr w' → Q0 .ret ⟨(Value.slice (some ⟨bi, 0, none⟩) inn.length ci :: c1 :: Value.slice none 0 0 :: Value.int .i64 t.at_ :: Value.int .i64 42 :: Value.pointer (some ⟨bp, 0, none⟩) :: c6 :: c7 :: Value.pointer (some ⟨bt, 0, none⟩) :: u9 :: c10 :: c11 :: c12 :: c13 :: c14 :: c15 :: c16 :: c17 :: c18 :: c19 :: c20 :: c21 :: c22 :: c23 :: c24 :: c25 :: c26 :: c27 :: c28 :: c29 :: c30 :: c31 :: c32 :: c33 :: c34 :: c35 :: c36 :: c37 :: c38 :: c39 :: c40 :: c41 :: c42 :: c43 :: c44 :: c45 :: c46 :: c47 :: c48 :: c49 :: c50 :: c51 :: c52 :: c53 :: c54 :: c55 :: c56 :: c57 :: c58 :: c59 :: c60 :: c61 :: c62 :: c63 :: c64 :: c65 :: c66 :: c67 :: c68 :: c69 :: c70 :: c71 :: c72 :: c73 :: c74 :: c75 :: c76 :: c77 :: c78 :: c79 :: c80 :: c81 :: c82 :: c83 :: c84 :: c85 :: c86 :: c87 :: c88 :: c89 :: c90 :: c91 :: c92 :: c93 :: c94 :: c95 :: c96 :: c97 :: c98 :: c99 :: c100 :: c101 :: c102 :: c103 :: c104 :: c105 :: c106 :: c107 :: c108 :: c109 :: c110 :: c111 :: c112 :: c113 :: c114 :: c115 :: c116 :: c117 :: c118 :: c119 :: c120 :: c121 :: c122 :: c123 :: c124 :: c125 :: c126 :: c127 :: c128 :: c129 :: c130 :: c131 :: c132 :: c133 :: c134 :: u135 :: u136 :: u137 :: u138 :: u139 :: u140 :: u141 :: u142 :: u143 :: u144 :: u145 :: u146 :: u147 :: u148 :: u149 :: u150 :: u151 :: u152 :: u153 :: u154 :: u155 :: u156 :: u157 :: u158 :: u159 :: u160 :: u161 :: u162 :: u163 :: u164 :: u165 :: u166 :: u167 :: u168 :: u169 :: u170 :: u171 :: u172 :: u173 :: u174 :: u175 :: u176 :: u177 :: u178 :: u179 :: u180 :: u181 :: u182 :: u183 :: u184 :: u185 :: u186 :: u187 :: u188 :: u189 :: u190 :: c191 :: c192 :: c193 :: c194 :: c195 :: c196 :: c197 :: c198 :: c199 :: c200 :: c201 :: c202 :: c203 :: c204 :: c205 :: c206 :: c207 :: c208 :: c209 :: c210 :: c211 :: c212 :: c213 :: c214 :: c215 :: c216 :: c217 :: c218 :: c219 :: c220 :: c221 :: c222 :: c223 :: c224 :: c225 :: c226 :: c227 :: c228 :: c229 :: c230 :: c231 :: c232 :: c233 :: c234 :: c235 :: c236 :: c237 :: c238 :: c239 :: c240 :: c241 :: c242 :: c243 :: c244 :: c245 :: c246 :: c247 :: c248 :: c249 :: c250 :: c251 :: c252 :: c253 :: c254 :: c255 :: c256 :: c257 :: c258 :: c259 :: c260 :: c261 :: c262 :: c263 :: c264 :: c265 :: c266 :: c267 :: c268 :: c269 :: c270 :: c271 :: c272 :: c273 :: c274 :: c275 :: c276 :: c277 :: c278 :: c279 :: c280 :: c281 :: c282 :: c283 :: c284 :: c285 :: c286 :: c287 :: c288 :: c289 :: c290 :: c291 :: c292 :: c293 :: c294 :: c295 :: c296 :: c297 :: c298 :: c299 :: c300 :: c301 :: c302 :: c303 :: c304 :: c305 :: c306 :: c307 :: c308 :: c309 :: c310 :: c311 :: c312 :: c313 :: c314 :: c315 :: c316 :: c317 :: c318 :: c319 :: c320 :: c321 :: c322 :: c323 :: c324 :: c325 :: c326 :: c327 :: c328 :: c329 :: c330 :: c331 :: c332 :: c333 :: c334 :: c335 :: c336 :: c337 :: c338 :: c339 :: c340 :: c341 :: c342 :: c343 :: c344 :: c345 :: c346 :: c347 :: c348 :: c349 :: c350 :: c351 :: c352 :: c353 :: c354 :: c355 :: c356 :: c357 :: c358 :: c359 :: c360 :: c361 :: c362 :: c363 :: c364 :: c365 :: c366 :: c367 :: c368 :: c369 :: c370 :: c371 :: c372 :: c373 :: c374 :: []).toArray, []⟩ w') :
    Code.wp Try.prog (Code.loop (loop10 21)) Q0 ⟨(Value.slice (some ⟨bi, 0, none⟩) inn.length ci :: c1 :: c2 :: c3 :: c4 :: Value.pointer (some ⟨bp, 0, none⟩) :: c6 :: c7 :: Value.pointer (some ⟨bt, 0, none⟩) :: c9 :: c10 :: c11 :: c12 :: c13 :: c14 :: c15 :: c16 :: c17 :: c18 :: c19 :: c20 :: c21 :: c22 :: c23 :: c24 :: c25 :: c26 :: c27 :: c28 :: c29 :: c30 :: c31 :: c32 :: c33 :: c34 :: c35 :: c36 :: c37 :: c38 :: c39 :: c40 :: c41 :: c42 :: c43 :: c44 :: c45 :: c46 :: c47 :: c48 :: c49 :: c50 :: c51 :: c52 :: c53 :: c54 :: c55 :: c56 :: c57 :: c58 :: c59 :: c60 :: c61 :: c62 :: c63 :: c64 :: c65 :: c66 :: c67 :: c68 :: c69 :: c70 :: c71 :: c72 :: c73 :: c74 :: c75 :: c76 :: c77 :: c78 :: c79 :: c80 :: c81 :: c82 :: c83 :: c84 :: c85 :: c86 :: c87 :: c88 :: c89 :: c90 :: c91 :: c92 :: c93 :: c94 :: c95 :: c96 :: c97 :: c98 :: c99 :: c100 :: c101 :: c102 :: c103 :: c104 :: c105 :: c106 :: c107 :: c108 :: c109 :: c110 :: c111 :: c112 :: c113 :: c114 :: c115 :: c116 :: c117 :: c118 :: c119 :: c120 :: c121 :: c122 :: c123 :: c124 :: c125 :: c126 :: c127 :: c128 :: c129 :: c130 :: c131 :: c132 :: c133 :: c134 :: c135 :: c136 :: c137 :: c138 :: c139 :: c140 :: c141 :: c142 :: c143 :: c144 :: c145 :: c146 :: c147 :: c148 :: c149 :: c150 :: c151 :: c152 :: c153 :: c154 :: c155 :: c156 :: c157 :: c158 :: c159 :: c160 :: c161 :: c162 :: c163 :: c164 :: c165 :: c166 :: c167 :: c168 :: c169 :: c170 :: c171 :: c172 :: c173 :: c174 :: c175 :: c176 :: c177 :: c178 :: c179 :: c180 :: c181 :: c182 :: c183 :: c184 :: c185 :: c186 :: c187 :: c188 :: c189 :: c190 :: c191 :: c192 :: c193 :: c194 :: c195 :: c196 :: c197 :: c198 :: c199 :: c200 :: c201 :: c202 :: c203 :: c204 :: c205 :: c206 :: c207 :: c208 :: c209 :: c210 :: c211 :: c212 :: c213 :: c214 :: c215 :: c216 :: c217 :: c218 :: c219 :: c220 :: c221 :: c222 :: c223 :: c224 :: c225 :: c226 :: c227 :: c228 :: c229 :: c230 :: c231 :: c232 :: c233 :: c234 :: c235 :: c236 :: c237 :: c238 :: c239 :: c240 :: c241 :: c242 :: c243 :: c244 :: c245 :: c246 :: c247 :: c248 :: c249 :: c250 :: c251 :: c252 :: c253 :: c254 :: c255 :: c256 :: c257 :: c258 :: c259 :: c260 :: c261 :: c262 :: c263 :: c264 :: c265 :: c266 :: c267 :: c268 :: c269 :: c270 :: c271 :: c272 :: c273 :: c274 :: c275 :: c276 :: c277 :: c278 :: c279 :: c280 :: c281 :: c282 :: c283 :: c284 :: c285 :: c286 :: c287 :: c288 :: c289 :: c290 :: c291 :: c292 :: c293 :: c294 :: c295 :: c296 :: c297 :: c298 :: c299 :: c300 :: c301 :: c302 :: c303 :: c304 :: c305 :: c306 :: c307 :: c308 :: c309 :: c310 :: c311 :: c312 :: c313 :: c314 :: c315 :: c316 :: c317 :: c318 :: c319 :: c320 :: c321 :: c322 :: c323 :: c324 :: c325 :: c326 :: c327 :: c328 :: c329 :: c330 :: c331 :: c332 :: c333 :: c334 :: c335 :: c336 :: c337 :: c338 :: c339 :: c340 :: c341 :: c342 :: c343 :: c344 :: c345 :: c346 :: c347 :: c348 :: c349 :: c350 :: c351 :: c352 :: c353 :: c354 :: c355 :: c356 :: c357 :: c358 :: c359 :: c360 :: c361 :: c362 :: c363 :: c364 :: c365 :: c366 :: c367 :: c368 :: c369 :: c370 :: c371 :: c372 :: c373 :: c374 :: []).toArray, []⟩ wr := by
  conv => arg 2; arg 1; whnf
  go_loopg [] (S.stk.length + 1) (fun k wc => ∃ U : RS, Rl wc bp X U ∧ Keep X wr wc ∧ 0 < U.stk.length ∧ U.stk.length < k ∧ RS.lines t k U = R)
  case atStart => exact ⟨S, h, Keep.refl _ _, hn, Nat.lt_succ_self _, HR.out⟩
  case round =>
    clear h hn HR
    obtain ⟨U, ⟨vs, vo, hU⟩, hk, hn, hf, hR⟩ := hrel
    obtain ⟨q, hq⟩ : ∃ q, gk = q + 1 := ⟨gk - 1, by omega⟩
    have hBw := hk.blk hB hX
    have tk := blk_cell hBw
    have tkl := blk_lt hBw
    obtain ⟨g, c, rfl, hcap, hmx⟩ := hU.form hn
    obtain ⟨b, hb1, hb2⟩ := getLast_at hn
    have hc := blk_cell hU.blk
    have hbp := blk_lt hU.blk
    have hr := hU.row hb2
    have b0 := hr.1 0 (by decide); have b3 := hr.1 3 (by decide)
    have hgl := hr.2.2.1
    simp only [Blk.rcells, Nat.add_zero] at b0 b3
    have hsm := hU.small
    have hn' : (0 : Int) < (U.stk.length : Int) := by omega
    have HU := Lib.hid hU
    have HK := Lib.hid hk
    have HB := Lib.hid hBw
    have HN := Lib.hid hn
    have HF := Lib.hid hf
    have HQ := Lib.hid hq
    rw [hq] at hR
    by_cases he : U.e = 0
    · have he' : (U.e == 0) = true := beq_iff_eq.2 he
      cases hex : b.ex with
      | true =>
        have HS1 : Hid (R = some U) := by show _ = _; rw [← hR]; unfold RS.lines; rw [if_neg (by simp [he]), hb1]; simp [hex]
        rw [hex] at b3
        clear hU hk hBw hn hf hR hr hb1 hb2 he hq hex
        go_wp2_with (fail)
        go_quiet (fail)
        go_wp2_with (fail)
        exact hexit _ _ _ _ _ _ _ _ _ _ _ _ _ _ _ _ _ _ _ _ _ _ _ _ _ _ _ _ _ _ _ _ _ _ _ _ _ _ _ _ _ _ _ _ _ _ _ _ _ _ _ _ _ _ _ _ _ _ _ _ _ _ HS1.out ((Rl.of HU.out).drewN _) (HK.out.drewN _)
      | false =>
        rw [hex] at b3
        by_cases hcq : b.col = t.col
        · have hcq1 : (b.col == t.col) = true := beq_iff_eq.2 hcq
          have hcq2 : b.col ≤ t.col := by omega
          have HS1 : Hid (R = some (U.put 6 t false)) := by show _ = _; rw [← hR]; unfold RS.lines; rw [if_neg (by simp [he]), hb1]; simp [hex, hcq]
          have HP := Lib.hid (fun n => rput_any ((Rl.of HU.out).drewN n) 6 t false)
          generalize U.put 6 t false = V at *
          clear hU hk hBw hn hf hR hr hb1 hb2 he hq hex hcq
          go_wp2_with (fail)
          go_quiet (fail)
          go_wp2_with (fail)
          go_quiet (fail)
          go_wp2_with (go_at_call 18; go_must (refine (HP.out _).mono ?_; rintro e w1 ⟨rfl, hp, hk⟩; have HP1 := Lib.hid hp; have HK1 := Lib.hid hk; have tk1 := blk_cell (hk.blk (show (World.drewN _ _).heap[bt]? = _ from HB.out) hX); have tkl1 := blk_lt (hk.blk (show (World.drewN _ _).heap[bt]? = _ from HB.out) hX); clear hp hk))
          exact hexit _ _ _ _ _ _ _ _ _ _ _ _ _ _ _ _ _ _ _ _ _ _ _ _ _ _ _ _ _ _ _ _ _ _ _ _ _ _ _ _ _ _ _ _ _ _ _ _ _ _ _ _ _ _ _ _ _ _ _ _ _ _ HS1.out HP1.out ((HK.out.drewN _).trans HK1.out)
        · have hcq1 : (b.col == t.col) = false := beq_eq_false_iff_ne.2 hcq
          by_cases hlt : b.col ≤ t.col
          · have HS1 : Hid (R = some U) := by show _ = _; rw [← hR]; unfold RS.lines; rw [if_neg (by simp [he]), hb1]; simp [hex, hcq, show b.col < t.col by omega]
            clear hU hk hBw hn hf hR hr hb1 hb2 he hq hex hcq
            go_wp2_with (fail)
            go_quiet (fail)
            go_wp2_with (fail)
            go_quiet (fail)
            go_wp2_with (fail)
            exact hexit _ _ _ _ _ _ _ _ _ _ _ _ _ _ _ _ _ _ _ _ _ _ _ _ _ _ _ _ _ _ _ _ _ _ _ _ _ _ _ _ _ _ _ _ _ _ _ _ _ _ _ _ _ _ _ _ _ _ _ _ _ _ HS1.out ((Rl.of HU.out).drewN _) (HK.out.drewN _)
          · have hgt : t.col < b.col := by omega
            by_cases hl1 : U.stk.length = 1
            · have hl1' : ((U.stk.length : Int) == 1) = true := by rw [hl1]; rfl
              have HS1 : Hid (R = none) := by show _ = _; rw [← hR]; unfold RS.lines; rw [if_neg (by simp [he]), hb1]; simp [hex, hcq, show ¬ b.col < t.col by omega, hl1]
              clear hU hk hBw hn hf hR hr hb1 hb2 he hq hex hcq hlt hl1
              go_wp2_with (fail)
              go_quiet (fail)
              go_wp2_with (fail)
              go_quiet (fail)
              go_wp2_with (fail)
              go_quiet (fail)
              go_wp2_with (fail)
              exact hret _ _ _ _ _ _ _ _ _ _ _ _ _ _ _ _ _ _ _ _ _ _ _ _ _ _ _ _ _ _ _ _ _ _ _ _ _ _ _ _ _ _ _ _ _ _ _ _ _ _ _ _ _ _ _ _ _ _ HS1.out ((HK.out.drewN _).drewN _)
            · have hl1' : ((U.stk.length : Int) == 1) = false := beq_eq_false_iff_ne.2 (by omega)
              have HS1 : Hid (RS.lines t q (U.pop t false) = R) := by
                show _ = _
                rw [← hR]
                conv => rhs; unfold RS.lines
                rw [if_neg (by simp [he]), hb1]; simp [hex, hcq, show ¬ b.col < t.col by omega, hl1]
              have HP := Lib.hid (fun n => rpop_any ((Rl.of HU.out).drewN n) t false hn)
              have HL : Hid ((U.pop t false).stk.length = U.stk.length - 1) := by show _ = _; unfold RS.pop; simp
              have HL1 := Lib.hid hl1
              generalize U.pop t false = V at *
              clear hU hk hBw hn hf hR hr hb1 hb2 he hq hex hcq hlt hl1
              go_wp2_with (fail)
              go_quiet (fail)
              go_wp2_with (fail)
              go_quiet (fail)
              go_wp2_with (go_at_call 20; go_must (refine (HP.out _).mono ?_; rintro e w1 ⟨rfl, hp, hk⟩; have HP1 := Lib.hid hp; have HK1 := Lib.hid hk; clear hp hk))
              go_roundg q
              case measure => have := HQ.out; omega
              case rel => exact ⟨V, HP1.out, (HK.out.drewN _).trans HK1.out, by have := HL.out; have := HL1.out; have := HN.out; omega, by have := HL.out; have := HN.out; have := HF.out; have := HQ.out; omega, HS1.out⟩
    · have he' : (U.e == 0) = false := beq_eq_false_iff_ne.2 he
      have HS1 : Hid (R = some U) := by show _ = _; rw [← hR]; unfold RS.lines; rw [if_pos he]
      clear hU hk hBw hn hf hR hr hb1 hb2 he hq
      go_wp2_with (fail)
      go_quiet (fail)
      go_wp2_with (fail)
      exact hexit _ _ _ _ _ _ _ _ _ _ _ _ _ _ _ _ _ _ _ _ _ _ _ _ _ _ _ _ _ _ _ _ _ _ _ _ _ _ _ _ _ _ _ _ _ _ _ _ _ _ _ _ _ _ _ _ _ _ _ _ _ _ HS1.out ((Rl.of HU.out).drewN _) (HK.out.drewN _)
end Go.Proofs.Ytglkdhodpgnlgaa

namespace Go.Proofs.Ytglkdhodpgnlgaa
open Go.RowKit Go.Tel

set_option maxRecDepth 1000000 in
set_option maxHeartbeats 8000000 in
theorem rends_loop {wr : World} {bp bt bi ci : Nat} {X : Nat → Prop} {inn : List Tok} {t : Tok} {S : RS} {R : Option RS} (h : Rl wr bp X S) (hX : X bt) (hB : wr.heap[bt]? = some (tokObj t)) (HR : Hid (RS.ends t (S.stk.length + 1) S = R))
    (c1 c2 c3 c4 c6 c7 c9 c10 c11 c12 c13 c14 c15 c16 c17 c18 c19 c20 c21 c22 c23 c24 c25 c26 c27 c28 c29 c30 c31 c32 c33 c34 c35 c36 c37 c38 c39 c40 c41 c42 c43 c44 c45 c46 c47 c48 c49 c50 c51 c52 c53 c54 c55 c56 c57 c58 c59 c60 c61 c62 c63 c64 c65 c66 c67 c68 c69 c70 c71 c72 c73 c74 c75 c76 c77 c78 c79 c80 c81 c82 c83 c84 c85 c86 c87 c88 c89 c90 c91 c92 c93 c94 c95 c96 c97 c98 c99 c100 c101 c102 c103 c104 c105 c106 c107 c108 c109 c110 c111 c112 c113 c114 c115 c116 c117 c118 c119 c120 c121 c122 c123 c124 c125 c126 c127 c128 c129 c130 c131 c132 c133 c134 c135 c136 c137 c138 c139 c140 c141 c142 c143 c144 c145 c146 c147 c148 c149 c150 c151 c152 c153 c154 c155 c156 c157 c158 c159 c160 c161 c162 c163 c164 c165 c166 c167 c168 c169 c170 c171 c172 c173 c174 c175 c176 c177 c178 c179 c180 c181 c182 c183 c184 c185 c186 c187 c188 c189 c190 c191 c192 c193 c194 c195 c196 c197 c198 c199 c200 c201 c202 c203 c204 c205 c206 c207 c208 c209 c210 c211 c212 c213 c214 c215 c216 c217 c218 c219 c220 c221 c222 c223 c224 c225 c226 c227 c228 c229 c230 c231 c232 c233 c234 c235 c236 c237 c238 c239 c240 c241 c242 c243 c244 c245 c246 c247 c248 c249 c250 c251 c252 c253 c254 c255 c256 c257 c258 c259 c260 c261 c262 c263 c264 c265 c266 c267 c268 c269 c270 c271 c272 c273 c274 c275 c276 c277 c278 c279 c280 c281 c282 c283 c284 c285 c286 c287 c288 c289 c290 c291 c292 c293 c294 c295 c296 c297 c298 c299 c300 c301 c302 c303 c304 c305 c306 c307 c308 c309 c310 c311 c312 c313 c314 c315 c316 c317 c318 c319 c320 c321 c322 c323 c324 c325 c326 c327 c328 c329 c330 c331 c332 c333 c334 c335 c336 c337 c338 c339 c340 c341 c342 c343 c344 c345 c346 c347 c348 c349 c350 c351 c352 c353 c354 c355 c356 c357 c358 c359 c360 c361 c362 c363 c364 c365 c366 c367 c368 c369 c370 c371 c372 c373 c374 : Value) (Q0 : Exit → Act → World → Prop)
    (hexit : ∀ (u2 u3 u4 u57 u58 u59 u60 u61 u62 u63 u64 u65 u66 u67 u68 u69 u70 u71 u72 u73 u74 u75 u76 u77 u78 u79 u80 u81 u82 u83 u84 u85 u86 u87 : Value) (w' : World) (S1 : RS), R = some S1 → Rl w' bp X S1 → Keep X wr w' → Q0 (.exit 2) ⟨(Value.slice (some ⟨bi, 0, none⟩) inn.length ci :: c1 :: u2 :: u3 :: u4 :: Value.pointer (some ⟨bp, 0, none⟩) :: c6 :: c7 :: Value.pointer (some ⟨bt, 0, none⟩) :: c9 :: c10 :: c11 :: c12 :: c13 :: c14 :: c15 :: c16 :: c17 :: c18 :: c19 :: c20 :: c21 :: c22 :: c23 :: c24 :: c25 :: c26 :: c27 :: c28 :: c29 :: c30 :: c31 :: c32 :: c33 :: c34 :: c35 :: c36 :: c37 :: c38 :: c39 :: c40 :: c41 :: c42 :: c43 :: c44 :: c45 :: c46 :: c47 :: c48 :: c49 :: c50 :: c51 :: c52 :: c53 :: c54 :: c55 :: c56 :: u57 :: u58 :: u59 :: u60 :: u61 :: u62 :: u63 :: u64 :: u65 :: u66 :: u67 :: u68 :: u69 :: u70 :: u71 :: u72 :: u73 :: u74 :: u75 :: u76 :: u77 :: u78 :: u79 :: u80 :: u81 :: u82 :: u83 :: u84 :: u85 :: u86 :: u87 :: c88 :: c89 :: c90 :: c91 :: c92 :: c93 :: c94 :: c95 :: c96 :: c97 :: c98 :: c99 :: c100 :: c101 :: c102 :: c103 :: c104 :: c105 :: c106 :: c107 :: c108 :: c109 :: c110 :: c111 :: c112 :: c113 :: c114 :: c115 :: c116 :: c117 :: c118 :: c119 :: c120 :: c121 :: c122 :: c123 :: c124 :: c125 :: c126 :: c127 :: c128 :: c129 :: c130 :: c131 :: c132 :: c133 :: c134 :: c135 :: c136 :: c137 :: c138 :: c139 :: c140 :: c141 :: c142 :: c143 :: c144 :: c145 :: c146 :: c147 :: c148 :: c149 :: c150 :: c151 :: c152 :: c153 :: c154 :: c155 :: c156 :: c157 :: c158 :: c159 :: c160 :: c161 :: c162 :: c163 :: c164 :: c165 :: c166 :: c167 :: c168 :: c169 :: c170 :: c171 :: c172 :: c173 :: c174 :: c175 :: c176 :: c177 :: c178 :: c179 :: c180 :: c181 :: c182 :: c183 :: c184 :: c185 :: c186 :: c187 :: c188 :: c189 :: c190 :: c191 :: c192 :: c193 :: c194 :: c195 :: c196 :: c197 :: c198 :: c199 :: c200 :: c201 :: c202 :: c203 :: c204 :: c205 :: c206 :: c207 :: c208 :: c209 :: c210 :: c211 :: c212 :: c213 :: c214 :: c215 :: c216 :: c217 :: c218 :: c219 :: c220 :: c221 :: c222 :: c223 :: c224 :: c225 :: c226 :: c227 :: c228 :: c229 :: c230 :: c231 :: c232 :: c233 :: c234 :: c235 :: c236 :: c237 :: c238 :: c239 :: c240 :: c241 :: c242 :: c243 :: c244 :: c245 :: c246 :: c247 :: c248 :: c249 :: c250 :: c251 :: c252 :: c253 :: c254 :: c255 :: c256 :: c257 :: c258 :: c259 :: c260 :: c261 :: c262 :: c263 :: c264 :: c265 :: c266 :: c267 :: c268 :: c269 :: c270 :: c271 :: c272 :: c273 :: c274 :: c275 :: c276 :: c277 :: c278 :: c279 :: c280 :: c281 :: c282 :: c283 :: c284 :: c285 :: c286 :: c287 :: c288 :: c289 :: c290 :: c291 :: c292 :: c293 :: c294 :: c295 :: c296 :: c297 :: c298 :: c299 :: c300 :: c301 :: c302 :: c303 :: c304 :: c305 :: c306 :: c307 :: c308 :: c309 :: c310 :: c311 :: c312 :: c313 :: c314 :: c315 :: c316 :: c317 :: c318 :: c319 :: c320 :: c321 :: c322 :: c323 :: c324 :: c325 :: c326 :: c327 :: c328 :: c329 :: c330 :: c331 :: c332 :: c333 :: c334 :: c335 :: c336 :: c337 :: c338 :: c339 :: c340 :: c341 :: c342 :: c343 :: c344 :: c345 :: c346 :: c347 :: c348 :: c349 :: c350 :: c351 :: c352 :: c353 :: c354 :: c355 :: c356 :: c357 :: c358 :: c359 :: c360 :: c361 :: c362 :: c363 :: c364 :: c365 :: c366 :: c367 :: c368 :: c369 :: c370 :: c371 :: c372 :: c373 :: c374 :: []).toArray, []⟩ w')
    (hret : ∀ (u57 u58 u59 u60 u61 u62 u63 u64 u65 u66 u67 u68 u69 u70 u71 u72 u73 u74 u75 u76 u77 u78 u79 u80 u81 u82 u83 u84 u85 u86 u87 : Value) (w' : World), R = none → Keep X wr w' → Q0 .ret ⟨(Value.slice (some ⟨bi, 0, none⟩) inn.length ci :: c1 :: Value.slice none 0 0 :: Value.int .i64 t.at_ :: Value.int .i64 42 :: Value.pointer (some ⟨bp, 0, none⟩) :: c6 :: c7 :: Value.pointer (some ⟨bt, 0, none⟩) :: c9 :: c10 :: c11 :: c12 :: c13 :: c14 :: c15 :: c16 :: c17 :: c18 :: c19 :: c20 :: c21 :: c22 :: c23 :: c24 :: c25 :: c26 :: c27 :: c28 :: c29 :: c30 :: c31 :: c32 :: c33 :: c34 :: c35 :: c36 :: c37 :: c38 :: c39 :: c40 :: c41 :: c42 :: c43 :: c44 :: c45 :: c46 :: c47 :: c48 :: c49 :: c50 :: c51 :: c52 :: c53 :: c54 :: c55 :: c56 :: u57 :: u58 :: u59 :: u60 :: u61 :: u62 :: u63 :: u64 :: u65 :: u66 :: u67 :: u68 :: u69 :: u70 :: u71 :: u72 :: u73 :: u74 :: u75 :: u76 :: u77 :: u78 :: u79 :: u80 :: u81 :: u82 :: u83 :: u84 :: u85 :: u86 :: u87 :: c88 :: c89 :: c90 :: c91 :: c92 :: c93 :: c94 :: c95 :: c96 :: c97 :: c98 :: c99 :: c100 :: c101 :: c102 :: c103 :: c104 :: c105 :: c106 :: c107 :: c108 :: c109 :: c110 :: c111 :: c112 :: c113 :: c114 :: c115 :: c116 :: c117 :: c118 :: c119 :: c120 :: c121 :: c122 :: c123 :: c124 :: c125 :: c126 :: c127 :: c128 :: c129 :: c130 :: c131 :: c132 :: c133 :: c134 :: c135 :: c136 :: c137 :: c138 :: c139 :: c140 :: c141 :: c142 :: c143 :: c144 :: c145 :: c146 :: c147 :: c148 :: c149 :: c150 :: c151 :: c152 :: c153 :: c154 :: c155 :: c156 :: c157 :: c158 :: c159 :: c160 :: c161 :: c162 :: c163 :: c164 :: c165 :: c166 :: c167 :: c168 :: c169 :: c170 :: c171 :: c172 :: c173 :: c174 :: c175 :: c176 :: c177 :: c178 :: c179 :: c180 :: c181 :: c182 :: c183 :: c184 :: c185 :: c186 :: c187 :: c188 :: c189 :: c190 :: c191 :: c192 :: c193 :: c194 :: c195 :: c196 :: c197 :: c198 :: c199 :: c200 :: c201 :: c202 :: c203 :: c204 :: c205 :: c206 :: c207 :: c208 :: c209 :: c210 :: c211 :: c212 :: c213 :: c214 :: c215 :: c216 :: c217 :: c218 :: c219 :: c220 :: c221 :: c222 :: c223 :: c224 :: c225 :: c226 :: c227 :: c228 :: c229 :: c230 :: c231 :: c232 :: c233 :: c234 :: c235 :: c236 :: c237 :: c238 :: c239 :: c240 :: c241 :: c242 :: c243 :: c244 :: c245 :: c246 :: c247 :: c248 :: c249 :: c250 :: c251 :: c252 :: c253 :: c254 :: c255 :: c256 :: c257 :: c258 :: c259 :: c260 :: c261 :: c262 :: c263 :: c264 :: c265 :: c266 :: c267 :: c268 :: c269 :: c270 :: c271 :: c272 :: c273 :: c274 :: c275 :: c276 :: c277 :: c278 :: c279 :: c280 :: c281 :: c282 :: c283 :: c284 :: c285 :: c286 :: c287 :: c288 :: c289 :: c290 :: c291 :: c292 :: c293 :: c294 :: c295 :: c296 :: c297 :: c298 :: c299 :: c300 :: c301 :: c302 :: c303 :: c304 :: c305 :: c306 :: c307 :: c308 :: c309 :: c310 :: c311 :: c312 :: c313 :: c314 :: c315 :: c316 :: c317 :: c318 :: c319 :: c320 :: c321 :: c322 :: c323 :: c324 :: c325 :: c326 :: c327 :: c328 :: c329 :: c330 :: c331 :: c332 :: c333 :: c334 :: c335 :: c336 :: c337 :: c338 :: c339 :: c340 :: c341 :: c342 :: c343 :: c344 :: c345 :: c346 :: c347 :: c348 :: c349 :: c350 :: c351 :: c352 :: c353 :: c354 :: c355 :: c356 :: c357 :: c358 :: c359 :: c360 :: c361 :: c362 :: c363 :: c364 :: c365 :: c366 :: c367 :: c368 :: c369 :: c370 :: c371 :: c372 :: c373 :: c374 :: []).toArray, []⟩ w') :
    Code.wp Try.prog (Code.loop (loop10 13)) Q0 ⟨(Value.slice (some ⟨bi, 0, none⟩) inn.length ci :: c1 :: c2 :: c3 :: c4 :: Value.pointer (some ⟨bp, 0, none⟩) :: c6 :: c7 :: Value.pointer (some ⟨bt, 0, none⟩) :: c9 :: c10 :: c11 :: c12 :: c13 :: c14 :: c15 :: c16 :: c17 :: c18 :: c19 :: c20 :: c21 :: c22 :: c23 :: c24 :: c25 :: c26 :: c27 :: c28 :: c29 :: c30 :: c31 :: c32 :: c33 :: c34 :: c35 :: c36 :: c37 :: c38 :: c39 :: c40 :: c41 :: c42 :: c43 :: c44 :: c45 :: c46 :: c47 :: c48 :: c49 :: c50 :: c51 :: c52 :: c53 :: c54 :: c55 :: c56 :: c57 :: c58 :: c59 :: c60 :: c61 :: c62 :: c63 :: c64 :: c65 :: c66 :: c67 :: c68 :: c69 :: c70 :: c71 :: c72 :: c73 :: c74 :: c75 :: c76 :: c77 :: c78 :: c79 :: c80 :: c81 :: c82 :: c83 :: c84 :: c85 :: c86 :: c87 :: c88 :: c89 :: c90 :: c91 :: c92 :: c93 :: c94 :: c95 :: c96 :: c97 :: c98 :: c99 :: c100 :: c101 :: c102 :: c103 :: c104 :: c105 :: c106 :: c107 :: c108 :: c109 :: c110 :: c111 :: c112 :: c113 :: c114 :: c115 :: c116 :: c117 :: c118 :: c119 :: c120 :: c121 :: c122 :: c123 :: c124 :: c125 :: c126 :: c127 :: c128 :: c129 :: c130 :: c131 :: c132 :: c133 :: c134 :: c135 :: c136 :: c137 :: c138 :: c139 :: c140 :: c141 :: c142 :: c143 :: c144 :: c145 :: c146 :: c147 :: c148 :: c149 :: c150 :: c151 :: c152 :: c153 :: c154 :: c155 :: c156 :: c157 :: c158 :: c159 :: c160 :: c161 :: c162 :: c163 :: c164 :: c165 :: c166 :: c167 :: c168 :: c169 :: c170 :: c171 :: c172 :: c173 :: c174 :: c175 :: c176 :: c177 :: c178 :: c179 :: c180 :: c181 :: c182 :: c183 :: c184 :: c185 :: c186 :: c187 :: c188 :: c189 :: c190 :: c191 :: c192 :: c193 :: c194 :: c195 :: c196 :: c197 :: c198 :: c199 :: c200 :: c201 :: c202 :: c203 :: c204 :: c205 :: c206 :: c207 :: c208 :: c209 :: c210 :: c211 :: c212 :: c213 :: c214 :: c215 :: c216 :: c217 :: c218 :: c219 :: c220 :: c221 :: c222 :: c223 :: c224 :: c225 :: c226 :: c227 :: c228 :: c229 :: c230 :: c231 :: c232 :: c233 :: c234 :: c235 :: c236 :: c237 :: c238 :: c239 :: c240 :: c241 :: c242 :: c243 :: c244 :: c245 :: c246 :: c247 :: c248 :: c249 :: c250 :: c251 :: c252 :: c253 :: c254 :: c255 :: c256 :: c257 :: c258 :: c259 :: c260 :: c261 :: c262 :: c263 :: c264 :: c265 :: c266 :: c267 :: c268 :: c269 :: c270 :: c271 :: c272 :: c273 :: c274 :: c275 :: c276 :: c277 :: c278 :: c279 :: c280 :: c281 :: c282 :: c283 :: c284 :: c285 :: c286 :: c287 :: c288 :: c289 :: c290 :: c291 :: c292 :: c293 :: c294 :: c295 :: c296 :: c297 :: c298 :: c299 :: c300 :: c301 :: c302 :: c303 :: c304 :: c305 :: c306 :: c307 :: c308 :: c309 :: c310 :: c311 :: c312 :: c313 :: c314 :: c315 :: c316 :: c317 :: c318 :: c319 :: c320 :: c321 :: c322 :: c323 :: c324 :: c325 :: c326 :: c327 :: c328 :: c329 :: c330 :: c331 :: c332 :: c333 :: c334 :: c335 :: c336 :: c337 :: c338 :: c339 :: c340 :: c341 :: c342 :: c343 :: c344 :: c345 :: c346 :: c347 :: c348 :: c349 :: c350 :: c351 :: c352 :: c353 :: c354 :: c355 :: c356 :: c357 :: c358 :: c359 :: c360 :: c361 :: c362 :: c363 :: c364 :: c365 :: c366 :: c367 :: c368 :: c369 :: c370 :: c371 :: c372 :: c373 :: c374 :: []).toArray, []⟩ wr := by
  conv => arg 2; arg 1; whnf
  go_loopg [] (S.stk.length + 1) (fun k wc => ∃ U : RS, Rl wc bp X U ∧ Keep X wr wc ∧ U.stk.length < k ∧ RS.ends t k U = R)
  case atStart => exact ⟨S, h, Keep.refl _ _, Nat.lt_succ_self _, HR.out⟩
  case round =>
    clear h HR
    obtain ⟨U, ⟨vs, vo, hU⟩, hk, hf, hR⟩ := hrel
    obtain ⟨q, hq⟩ : ∃ q, gk = q + 1 := ⟨gk - 1, by omega⟩
    have hBw := hk.blk hB hX
    have tk := blk_cell hBw
    have tkl := blk_lt hBw
    have hc := blk_cell hU.blk
    have hbp := blk_lt hU.blk
    have HU := Lib.hid hU
    have HK := Lib.hid hk
    have HB := Lib.hid hBw
    have HF := Lib.hid hf
    have HQ := Lib.hid hq
    rw [hq] at hR
    by_cases hz : U.stk.length = 0
    · obtain ⟨p, c, hv⟩ := own_form hU.stk
      subst hv
      have HS1 : Hid (R = some U) := by show _ = _; rw [← hR]; unfold RS.ends; rw [List.eq_nil_of_length_eq_zero hz]; rfl
      rw [hz] at hc
      clear hU hk hBw hf hR hq hz
      go_wp2_with (fail)
      exact hexit _ _ _ _ _ _ _ _ _ _ _ _ _ _ _ _ _ _ _ _ _ _ _ _ _ _ _ _ _ _ _ _ _ _ _ _ HS1.out (Rl.of HU.out) HK.out
    · have hn : 0 < U.stk.length := by omega
      have hn' : (0 : Int) < (U.stk.length : Int) := by omega
      have hsm := hU.small
      obtain ⟨g, c, rfl, hcap, hmx⟩ := hU.form hn
      obtain ⟨b, hb1, hb2⟩ := getLast_at hn
      have hr := hU.row hb2
      have b0 := hr.1 0 (by decide); have b3 := hr.1 3 (by decide)
      have hgl := hr.2.2.1
      simp only [Blk.rcells, Nat.add_zero] at b0 b3
      have HN := Lib.hid hn
      by_cases he : U.e = 0
      · have he' : (U.e == 0) = true := beq_iff_eq.2 he
        cases hex : b.ex with
        | true =>
          have HS1 : Hid (R = none) := by show _ = _; rw [← hR]; unfold RS.ends; rw [hb1]; simp [he, hex]
          rw [hex] at b3
          clear hU hk hBw hn hf hR hr hb1 hb2 he hq hex hz
          go_wp2_with (fail)
          go_quiet (fail)
          go_wp2_with (fail)
          go_quiet (fail)
          go_wp2_with (fail)
          exact hret _ _ _ _ _ _ _ _ _ _ _ _ _ _ _ _ _ _ _ _ _ _ _ _ _ _ _ _ _ _ _ _ HS1.out ((HK.out.drewN _).drewN _)
        | false =>
          rw [hex] at b3
          have HS1 : Hid (RS.ends t q (U.pop t false) = R) := by
            show _ = _
            rw [← hR]
            conv => rhs; unfold RS.ends
            rw [hb1]; simp [he, hex]
          have HP := Lib.hid (fun n => rpop_any ((Rl.of HU.out).drewN n) t false hn)
          have HL : Hid ((U.pop t false).stk.length = U.stk.length - 1) := by show _ = _; unfold RS.pop; simp
          generalize U.pop t false = V at *
          clear hU hk hBw hn hf hR hr hb1 hb2 he hq hex hz
          go_wp2_with (fail)
          go_quiet (fail)
          go_wp2_with (go_at_call 20; go_must (refine (HP.out _).mono ?_; rintro e w1 ⟨rfl, hp, hk⟩; have HP1 := Lib.hid hp; have HK1 := Lib.hid hk; clear hp hk))
          go_roundg q
          case measure => have := HQ.out; omega
          case rel => exact ⟨V, HP1.out, (HK.out.drewN _).trans HK1.out, by have := HL.out; have := HN.out; have := HF.out; have := HQ.out; omega, HS1.out⟩
      · have he' : (U.e == 0) = false := beq_eq_false_iff_ne.2 he
        have HS1 : Hid (R = some U) := by show _ = _; rw [← hR]; unfold RS.ends; rw [hb1]; simp [he]
        clear hU hk hBw hn hf hR hr hb1 hb2 he hq hz
        go_wp2_with (fail)
        exact hexit _ _ _ _ _ _ _ _ _ _ _ _ _ _ _ _ _ _ _ _ _ _ _ _ _ _ _ _ _ _ _ _ _ _ _ _ HS1.out (Rl.of HU.out) HK.out
end Go.Proofs.Ytglkdhodpgnlgaa

namespace Go.Proofs.Ytglkdhodpgnlgaa
open Go.RowKit Go.Tel

set_option maxRecDepth 1000000 in
set_option maxHeartbeats 8000000 in
theorem rinw_loop {w0 : World} {bp bt bi ci : Nat} {X : Nat → Prop} {inn : List Tok} {t : Tok} {S R : RS} {v11 : Value} (h : Rl w0 bp X S) (hX : X bt) (hB : w0.heap[bt]? = some (tokObj t)) (hix : IdxAt S.stk.length v11) (HR : Hid ((match inFind S.stk S.stk.length with | none => S | some i => RS.pops t (S.stk.length - i) S) = R))
    (c1 c2 c3 c4 c6 c7 c9 c12 c13 c14 c15 c16 c17 c18 c19 c20 c21 c22 c23 c24 c25 c26 c27 c28 c29 c30 c31 c32 c33 c34 c35 c36 c37 c38 c39 c40 c41 c42 c43 c44 c45 c46 c47 c48 c49 c50 c51 c52 c53 c54 c55 c56 c57 c58 c59 c60 c61 c62 c63 c64 c65 c66 c67 c68 c69 c70 c71 c72 c73 c74 c75 c76 c77 c78 c79 c80 c81 c82 c83 c84 c85 c86 c87 c88 c89 c90 c91 c92 c93 c94 c95 c96 c97 c98 c99 c100 c101 c102 c103 c104 c105 c106 c107 c108 c109 c110 c111 c112 c113 c114 c115 c116 c117 c118 c119 c120 c121 c122 c123 c124 c125 c126 c127 c128 c129 c130 c131 c132 c133 c134 c135 c136 c137 c138 c139 c140 c141 c142 c143 c144 c145 c146 c147 c148 c149 c150 c151 c152 c153 c154 c155 c156 c157 c158 c159 c160 c161 c162 c163 c164 c165 c166 c167 c168 c169 c170 c171 c172 c173 c174 c175 c176 c177 c178 c179 c180 c181 c182 c183 c184 c185 c186 c187 c188 c189 c190 c191 c192 c193 c194 c195 c196 c197 c198 c199 c200 c201 c202 c203 c204 c205 c206 c207 c208 c209 c210 c211 c212 c213 c214 c215 c216 c217 c218 c219 c220 c221 c222 c223 c224 c225 c226 c227 c228 c229 c230 c231 c232 c233 c234 c235 c236 c237 c238 c239 c240 c241 c242 c243 c244 c245 c246 c247 c248 c249 c250 c251 c252 c253 c254 c255 c256 c257 c258 c259 c260 c261 c262 c263 c264 c265 c266 c267 c268 c269 c270 c271 c272 c273 c274 c275 c276 c277 c278 c279 c280 c281 c282 c283 c284 c285 c286 c287 c288 c289 c290 c291 c292 c293 c294 c295 c296 c297 c298 c299 c300 c301 c302 c303 c304 c305 c306 c307 c308 c309 c310 c311 c312 c313 c314 c315 c316 c317 c318 c319 c320 c321 c322 c323 c324 c325 c326 c327 c328 c329 c330 c331 c332 c333 c334 c335 c336 c337 c338 c339 c340 c341 c342 c343 c344 c345 c346 c347 c348 c349 c350 c351 c352 c353 c354 c355 c356 c357 c358 c359 c360 c361 c362 c363 c364 c365 c366 c367 c368 c369 c370 c371 c372 c373 c374 : Value) (Q0 : Exit → Act → World → Prop)
    (hexit : ∀ (u10 u11 u205 u206 u207 u208 u209 u210 u211 u212 u213 u214 u215 u216 u217 u218 u219 u220 u221 u222 u223 u224 u225 u226 u227 u228 u229 u230 u231 u232 u233 u234 u235 u236 u237 u238 u239 u240 u241 u242 u243 : Value) (w' : World) , Rl w' bp X R → Keep X w0 w' → Q0 (.exit 6) ⟨(Value.slice (some ⟨bi, 0, none⟩) inn.length ci :: c1 :: c2 :: c3 :: c4 :: Value.pointer (some ⟨bp, 0, none⟩) :: c6 :: c7 :: Value.pointer (some ⟨bt, 0, none⟩) :: c9 :: u10 :: u11 :: c12 :: c13 :: c14 :: c15 :: c16 :: c17 :: c18 :: c19 :: c20 :: c21 :: c22 :: c23 :: c24 :: c25 :: c26 :: c27 :: c28 :: c29 :: c30 :: c31 :: c32 :: c33 :: c34 :: c35 :: c36 :: c37 :: c38 :: c39 :: c40 :: c41 :: c42 :: c43 :: c44 :: c45 :: c46 :: c47 :: c48 :: c49 :: c50 :: c51 :: c52 :: c53 :: c54 :: c55 :: c56 :: c57 :: c58 :: c59 :: c60 :: c61 :: c62 :: c63 :: c64 :: c65 :: c66 :: c67 :: c68 :: c69 :: c70 :: c71 :: c72 :: c73 :: c74 :: c75 :: c76 :: c77 :: c78 :: c79 :: c80 :: c81 :: c82 :: c83 :: c84 :: c85 :: c86 :: c87 :: c88 :: c89 :: c90 :: c91 :: c92 :: c93 :: c94 :: c95 :: c96 :: c97 :: c98 :: c99 :: c100 :: c101 :: c102 :: c103 :: c104 :: c105 :: c106 :: c107 :: c108 :: c109 :: c110 :: c111 :: c112 :: c113 :: c114 :: c115 :: c116 :: c117 :: c118 :: c119 :: c120 :: c121 :: c122 :: c123 :: c124 :: c125 :: c126 :: c127 :: c128 :: c129 :: c130 :: c131 :: c132 :: c133 :: c134 :: c135 :: c136 :: c137 :: c138 :: c139 :: c140 :: c141 :: c142 :: c143 :: c144 :: c145 :: c146 :: c147 :: c148 :: c149 :: c150 :: c151 :: c152 :: c153 :: c154 :: c155 :: c156 :: c157 :: c158 :: c159 :: c160 :: c161 :: c162 :: c163 :: c164 :: c165 :: c166 :: c167 :: c168 :: c169 :: c170 :: c171 :: c172 :: c173 :: c174 :: c175 :: c176 :: c177 :: c178 :: c179 :: c180 :: c181 :: c182 :: c183 :: c184 :: c185 :: c186 :: c187 :: c188 :: c189 :: c190 :: c191 :: c192 :: c193 :: c194 :: c195 :: c196 :: c197 :: c198 :: c199 :: c200 :: c201 :: c202 :: c203 :: c204 :: u205 :: u206 :: u207 :: u208 :: u209 :: u210 :: u211 :: u212 :: u213 :: u214 :: u215 :: u216 :: u217 :: u218 :: u219 :: u220 :: u221 :: u222 :: u223 :: u224 :: u225 :: u226 :: u227 :: u228 :: u229 :: u230 :: u231 :: u232 :: u233 :: u234 :: u235 :: u236 :: u237 :: u238 :: u239 :: u240 :: u241 :: u242 :: u243 :: c244 :: c245 :: c246 :: c247 :: c248 :: c249 :: c250 :: c251 :: c252 :: c253 :: c254 :: c255 :: c256 :: c257 :: c258 :: c259 :: c260 :: c261 :: c262 :: c263 :: c264 :: c265 :: c266 :: c267 :: c268 :: c269 :: c270 :: c271 :: c272 :: c273 :: c274 :: c275 :: c276 :: c277 :: c278 :: c279 :: c280 :: c281 :: c282 :: c283 :: c284 :: c285 :: c286 :: c287 :: c288 :: c289 :: c290 :: c291 :: c292 :: c293 :: c294 :: c295 :: c296 :: c297 :: c298 :: c299 :: c300 :: c301 :: c302 :: c303 :: c304 :: c305 :: c306 :: c307 :: c308 :: c309 :: c310 :: c311 :: c312 :: c313 :: c314 :: c315 :: c316 :: c317 :: c318 :: c319 :: c320 :: c321 :: c322 :: c323 :: c324 :: c325 :: c326 :: c327 :: c328 :: c329 :: c330 :: c331 :: c332 :: c333 :: c334 :: c335 :: c336 :: c337 :: c338 :: c339 :: c340 :: c341 :: c342 :: c343 :: c344 :: c345 :: c346 :: c347 :: c348 :: c349 :: c350 :: c351 :: c352 :: c353 :: c354 :: c355 :: c356 :: c357 :: c358 :: c359 :: c360 :: c361 :: c362 :: c363 :: c364 :: c365 :: c366 :: c367 :: c368 :: c369 :: c370 :: c371 :: c372 :: c373 :: c374 :: []).toArray, []⟩ w') :
    Code.wp Try.prog (Code.loop (loop10 35)) Q0 ⟨(Value.slice (some ⟨bi, 0, none⟩) inn.length ci :: c1 :: c2 :: c3 :: c4 :: Value.pointer (some ⟨bp, 0, none⟩) :: c6 :: c7 :: Value.pointer (some ⟨bt, 0, none⟩) :: c9 :: Value.int .i64 0 :: v11 :: c12 :: c13 :: c14 :: c15 :: c16 :: c17 :: c18 :: c19 :: c20 :: c21 :: c22 :: c23 :: c24 :: c25 :: c26 :: c27 :: c28 :: c29 :: c30 :: c31 :: c32 :: c33 :: c34 :: c35 :: c36 :: c37 :: c38 :: c39 :: c40 :: c41 :: c42 :: c43 :: c44 :: c45 :: c46 :: c47 :: c48 :: c49 :: c50 :: c51 :: c52 :: c53 :: c54 :: c55 :: c56 :: c57 :: c58 :: c59 :: c60 :: c61 :: c62 :: c63 :: c64 :: c65 :: c66 :: c67 :: c68 :: c69 :: c70 :: c71 :: c72 :: c73 :: c74 :: c75 :: c76 :: c77 :: c78 :: c79 :: c80 :: c81 :: c82 :: c83 :: c84 :: c85 :: c86 :: c87 :: c88 :: c89 :: c90 :: c91 :: c92 :: c93 :: c94 :: c95 :: c96 :: c97 :: c98 :: c99 :: c100 :: c101 :: c102 :: c103 :: c104 :: c105 :: c106 :: c107 :: c108 :: c109 :: c110 :: c111 :: c112 :: c113 :: c114 :: c115 :: c116 :: c117 :: c118 :: c119 :: c120 :: c121 :: c122 :: c123 :: c124 :: c125 :: c126 :: c127 :: c128 :: c129 :: c130 :: c131 :: c132 :: c133 :: c134 :: c135 :: c136 :: c137 :: c138 :: c139 :: c140 :: c141 :: c142 :: c143 :: c144 :: c145 :: c146 :: c147 :: c148 :: c149 :: c150 :: c151 :: c152 :: c153 :: c154 :: c155 :: c156 :: c157 :: c158 :: c159 :: c160 :: c161 :: c162 :: c163 :: c164 :: c165 :: c166 :: c167 :: c168 :: c169 :: c170 :: c171 :: c172 :: c173 :: c174 :: c175 :: c176 :: c177 :: c178 :: c179 :: c180 :: c181 :: c182 :: c183 :: c184 :: c185 :: c186 :: c187 :: c188 :: c189 :: c190 :: c191 :: c192 :: c193 :: c194 :: c195 :: c196 :: c197 :: c198 :: c199 :: c200 :: c201 :: c202 :: c203 :: c204 :: c205 :: c206 :: c207 :: c208 :: c209 :: c210 :: c211 :: c212 :: c213 :: c214 :: c215 :: c216 :: c217 :: c218 :: c219 :: c220 :: c221 :: c222 :: c223 :: c224 :: c225 :: c226 :: c227 :: c228 :: c229 :: c230 :: c231 :: c232 :: c233 :: c234 :: c235 :: c236 :: c237 :: c238 :: c239 :: c240 :: c241 :: c242 :: c243 :: c244 :: c245 :: c246 :: c247 :: c248 :: c249 :: c250 :: c251 :: c252 :: c253 :: c254 :: c255 :: c256 :: c257 :: c258 :: c259 :: c260 :: c261 :: c262 :: c263 :: c264 :: c265 :: c266 :: c267 :: c268 :: c269 :: c270 :: c271 :: c272 :: c273 :: c274 :: c275 :: c276 :: c277 :: c278 :: c279 :: c280 :: c281 :: c282 :: c283 :: c284 :: c285 :: c286 :: c287 :: c288 :: c289 :: c290 :: c291 :: c292 :: c293 :: c294 :: c295 :: c296 :: c297 :: c298 :: c299 :: c300 :: c301 :: c302 :: c303 :: c304 :: c305 :: c306 :: c307 :: c308 :: c309 :: c310 :: c311 :: c312 :: c313 :: c314 :: c315 :: c316 :: c317 :: c318 :: c319 :: c320 :: c321 :: c322 :: c323 :: c324 :: c325 :: c326 :: c327 :: c328 :: c329 :: c330 :: c331 :: c332 :: c333 :: c334 :: c335 :: c336 :: c337 :: c338 :: c339 :: c340 :: c341 :: c342 :: c343 :: c344 :: c345 :: c346 :: c347 :: c348 :: c349 :: c350 :: c351 :: c352 :: c353 :: c354 :: c355 :: c356 :: c357 :: c358 :: c359 :: c360 :: c361 :: c362 :: c363 :: c364 :: c365 :: c366 :: c367 :: c368 :: c369 :: c370 :: c371 :: c372 :: c373 :: c374 :: []).toArray, []⟩ w0 := by
  conv => arg 2; arg 1; whnf
  go_loopg [10, 11] S.stk.length (fun k n i wc => Rl wc bp X S ∧ Keep X w0 wc ∧ n = .int .i64 ((S.stk.length - k : Nat) : Int) ∧ IdxAt k i ∧ k ≤ S.stk.length ∧ (match inFind S.stk k with | none => S | some i => RS.pops t (S.stk.length - i) S) = R)
  case atStart => exact ⟨h, Keep.refl _ _, by rw [Nat.sub_self]; rfl, hix, Nat.le_refl _, HR.out⟩
  case round =>
    clear h HR hix
    obtain ⟨⟨vs, vo, hU⟩, hk, rfl, hi, hkn, hR⟩ := hrel
    have HU := Lib.hid hU
    have HK := Lib.hid hk
    rcases hi with ⟨rfl, rfl⟩ | ⟨m, rfl, rfl⟩
    · have HS1 : Hid (R = S) := by show _ = _; rw [← hR]; rfl
      clear hU hk hR hkn
      go_wp2_with (fail)
      exact hexit _ _ _ _ _ _ _ _ _ _ _ _ _ _ _ _ _ _ _ _ _ _ _ _ _ _ _ _ _ _ _ _ _ _ _ _ _ _ _ _ _ _ (by rw [HS1.out]; exact Rl.of HU.out) HK.out
    · have hm : m < S.stk.length := by omega
      have hm' : (m : Int) < (S.stk.length : Int) := by omega
      have hn : 0 < S.stk.length := by omega
      obtain ⟨b, hb⟩ : ∃ b, S.stk[m]? = some b := ⟨_, List.getElem?_eq_getElem hm⟩
      have hc := blk_cell hU.blk
      have hbp := blk_lt hU.blk
      obtain ⟨g, c, rfl, hcap, hmx⟩ := hU.form hn
      have hr := hU.row hb
      have b1 := hr.1 1 (by decide); have b3 := hr.1 3 (by decide)
      have hgl := hr.2.2.1
      simp only [Blk.rcells] at b1 b3
      have hcnt : ((S.stk.length - (m + 1) : Nat) : Int) + 1 = ((S.stk.length - m : Nat) : Int) := by omega
      have hcnt2 : ((S.stk.length - (m + 1) : Nat) : Int) + 1 ≤ 9223372036854775807 := by omega
      have HCN := Lib.hid hcnt
      have HM := Lib.hid hm
      cases hex : b.ex with
      | true =>
        have HS1 : Hid (R = S) := by show _ = _; rw [← hR]; simp [inFind, hb, hex]
        rw [hex] at b3
        clear hU hk hR hkn hr hb hn hex hcnt hm
        go_wp2_with (fail)
        exact hexit _ _ _ _ _ _ _ _ _ _ _ _ _ _ _ _ _ _ _ _ _ _ _ _ _ _ _ _ _ _ _ _ _ _ _ _ _ _ _ _ _ _ (by rw [HS1.out]; exact Rl.of HU.out) HK.out
      | false =>
        rw [hex] at b3
        cases hlt : b.lt with
        | false =>
          rw [hlt] at b1
          have HS1 : Hid ((match inFind S.stk m with | none => S | some i => RS.pops t (S.stk.length - i) S) = R) := by show _ = _; rw [← hR]; simp [inFind, hb, hex, hlt]
          clear hU hk hR hkn hr hb hn hex hlt hcnt
          go_wp2_with (fail)
          go_roundg m
          case measure => omega
          case rel => exact ⟨Rl.of HU.out, HK.out, congrArg _ HCN.out, by rcases m with _ | m; exact Or.inl ⟨rfl, rfl⟩; exact Or.inr ⟨m, rfl, by congr 1; omega⟩, by omega, HS1.out⟩
        | true =>
          rw [hlt] at b1
          have HS1 : Hid (RS.pops t (S.stk.length - m) S = R) := by show _ = _; rw [← hR]; simp [inFind, hb, hex, hlt]
          clear hU hk hR hkn hr hb hex hlt hcnt
          go_wp2_with (fail)
          go_loopg [10] (S.stk.length - m) (fun q n wx => ∃ U : RS, Rl wx bp X U ∧ Keep X w0 wx ∧ n = .int .i64 (q : Int) ∧ q ≤ U.stk.length ∧ q ≤ S.stk.length ∧ RS.pops t q U = R)
          case atStart => exact ⟨S, Rl.of HU.out, HK.out, congrArg _ HCN.out, Nat.sub_le _ _, Nat.sub_le _ _, HS1.out⟩
          case round =>
            clear HU HS1 HCN b1 b3 hc hbp hgl hcnt2 HK
            obtain ⟨U, ⟨vs, vo, hU⟩, hk, rfl, hq, hq2, hR⟩ := hrel
            have hc := blk_cell hU.blk
            have hbp := blk_lt hU.blk
            have hBw := hk.blk hB hX
            have tk := blk_cell hBw
            have tkl := blk_lt hBw
            have HU := Lib.hid hU
            have HK := Lib.hid hk
            rcases Nat.eq_zero_or_pos gk with rfl | hgk
            · have hz1 : ¬ (0 : Int) < ((0 : Nat) : Int) := by omega
              have HS2 : Hid (R = U) := by show _ = _; rw [← hR]; rfl
              clear hU hk hR hBw
              go_wp2_with (fail)
              exact hexit _ _ _ _ _ _ _ _ _ _ _ _ _ _ _ _ _ _ _ _ _ _ _ _ _ _ _ _ _ _ _ _ _ _ _ _ _ _ _ _ _ _ (by rw [HS2.out]; exact Rl.of HU.out) HK.out
            · obtain ⟨q, rfl⟩ : ∃ q, gk = q + 1 := ⟨gk - 1, by omega⟩
              have hz1 : (0 : Int) < ((q + 1 : Nat) : Int) := by omega
              have hz2 : ((q + 1 : Nat) : Int) - 1 = (q : Int) := by omega
              have hz3 : ((q + 1 : Nat) : Int) ≤ 9223372036854775807 := by omega
              by_cases he : U.e = 0
              · have he' : (U.e == 0) = true := beq_iff_eq.2 he
                have HS2 : Hid (RS.pops t q (U.pop t false) = R) := by
                  show _ = _
                  rw [← hR]
                  conv => rhs; unfold RS.pops
                  rw [if_neg (by simp [he])]
                have HP := Lib.hid (rpop_any (Rl.of hU) t false (by omega))
                have HL : Hid (q ≤ (U.pop t false).stk.length) := by show _ ≤ _; unfold RS.pop; simp; omega
                have HQ2 : Hid (q ≤ S.stk.length) := by show _ ≤ _; omega
                generalize U.pop t false = V at *
                clear hU hk hR hBw he hq hq2
                go_wp2_with (go_at_call 20; go_must (refine HP.out.mono ?_; rintro e w1 ⟨rfl, hp, hk⟩; have HP1 := Lib.hid hp; have HK1 := Lib.hid hk; clear hp hk))
                go_roundg q
                case measure => omega
                case rel => exact ⟨V, HP1.out, HK.out.trans HK1.out, congrArg _ (by omega), HL.out, HQ2.out, HS2.out⟩
              · have he' : (U.e == 0) = false := beq_eq_false_iff_ne.2 he
                have HS2 : Hid (R = U) := by show _ = _; rw [← hR]; unfold RS.pops; rw [if_pos he]
                clear hU hk hR hBw he hq hq2
                go_wp2_with (fail)
                exact hexit _ _ _ _ _ _ _ _ _ _ _ _ _ _ _ _ _ _ _ _ _ _ _ _ _ _ _ _ _ _ _ _ _ _ _ _ _ _ _ _ _ _ (by rw [HS2.out]; exact Rl.of HU.out) HK.out
end Go.Proofs.Ytglkdhodpgnlgaa

namespace Go.Proofs.Ytglkdhodpgnlgaa
open Go.RowKit Go.Tel

set_option maxRecDepth 1000000 in
set_option maxHeartbeats 8000000 in
theorem rcol_loop {wr : World} {bp bt bi ci : Nat} {X : Nat → Prop} {inn : List Tok} {S : RS} {C : Int} {v16 : Value} (h : Rl wr bp X S) (hix : IdxAt S.stk.length v16) (HC : Hid (colOf S.stk S.stk.length = C))
    (c1 c2 c3 c4 c6 c7 c9 c10 c11 c12 c13 c14 c17 c18 c19 c20 c21 c22 c23 c24 c25 c26 c27 c28 c29 c30 c31 c32 c33 c34 c35 c36 c37 c38 c39 c40 c41 c42 c43 c44 c45 c46 c47 c48 c49 c50 c51 c52 c53 c54 c55 c56 c57 c58 c59 c60 c61 c62 c63 c64 c65 c66 c67 c68 c69 c70 c71 c72 c73 c74 c75 c76 c77 c78 c79 c80 c81 c82 c83 c84 c85 c86 c87 c88 c89 c90 c91 c92 c93 c94 c95 c96 c97 c98 c99 c100 c101 c102 c103 c104 c105 c106 c107 c108 c109 c110 c111 c112 c113 c114 c115 c116 c117 c118 c119 c120 c121 c122 c123 c124 c125 c126 c127 c128 c129 c130 c131 c132 c133 c134 c135 c136 c137 c138 c139 c140 c141 c142 c143 c144 c145 c146 c147 c148 c149 c150 c151 c152 c153 c154 c155 c156 c157 c158 c159 c160 c161 c162 c163 c164 c165 c166 c167 c168 c169 c170 c171 c172 c173 c174 c175 c176 c177 c178 c179 c180 c181 c182 c183 c184 c185 c186 c187 c188 c189 c190 c191 c192 c193 c194 c195 c196 c197 c198 c199 c200 c201 c202 c203 c204 c205 c206 c207 c208 c209 c210 c211 c212 c213 c214 c215 c216 c217 c218 c219 c220 c221 c222 c223 c224 c225 c226 c227 c228 c229 c230 c231 c232 c233 c234 c235 c236 c237 c238 c239 c240 c241 c242 c243 c244 c245 c246 c247 c248 c249 c250 c251 c252 c253 c254 c255 c256 c257 c258 c259 c260 c261 c262 c263 c264 c265 c266 c267 c268 c269 c270 c271 c272 c273 c274 c275 c276 c277 c278 c279 c280 c281 c282 c283 c284 c285 c286 c287 c288 c289 c290 c291 c292 c293 c294 c295 c296 c297 c298 c299 c300 c301 c302 c303 c304 c305 c306 c307 c308 c309 c310 c311 c312 c313 c314 c315 c316 c317 c318 c319 c320 c321 c322 c323 c324 c325 c326 c327 c328 c329 c330 c331 c332 c333 c334 c335 c336 c337 c338 c339 c340 c341 c342 c343 c344 c345 c346 c347 c348 c349 c350 c351 c352 c353 c354 c355 c356 c357 c358 c359 c360 c361 c362 c363 c364 c365 c366 c367 c368 c369 c370 c371 c372 c373 c374 : Value) (Q0 : Exit → Act → World → Prop)
    (hexit : ∀ (u16 u313 u314 u315 u316 u317 u318 u319 u320 u321 u322 u323 u324 u325 u326 u327 u328 u329 u330 u331 u332 u333 : Value), Q0 (.exit 10) ⟨(Value.slice (some ⟨bi, 0, none⟩) inn.length ci :: c1 :: c2 :: c3 :: c4 :: Value.pointer (some ⟨bp, 0, none⟩) :: c6 :: c7 :: Value.pointer (some ⟨bt, 0, none⟩) :: c9 :: c10 :: c11 :: c12 :: c13 :: c14 :: Value.int .i64 C :: u16 :: c17 :: c18 :: c19 :: c20 :: c21 :: c22 :: c23 :: c24 :: c25 :: c26 :: c27 :: c28 :: c29 :: c30 :: c31 :: c32 :: c33 :: c34 :: c35 :: c36 :: c37 :: c38 :: c39 :: c40 :: c41 :: c42 :: c43 :: c44 :: c45 :: c46 :: c47 :: c48 :: c49 :: c50 :: c51 :: c52 :: c53 :: c54 :: c55 :: c56 :: c57 :: c58 :: c59 :: c60 :: c61 :: c62 :: c63 :: c64 :: c65 :: c66 :: c67 :: c68 :: c69 :: c70 :: c71 :: c72 :: c73 :: c74 :: c75 :: c76 :: c77 :: c78 :: c79 :: c80 :: c81 :: c82 :: c83 :: c84 :: c85 :: c86 :: c87 :: c88 :: c89 :: c90 :: c91 :: c92 :: c93 :: c94 :: c95 :: c96 :: c97 :: c98 :: c99 :: c100 :: c101 :: c102 :: c103 :: c104 :: c105 :: c106 :: c107 :: c108 :: c109 :: c110 :: c111 :: c112 :: c113 :: c114 :: c115 :: c116 :: c117 :: c118 :: c119 :: c120 :: c121 :: c122 :: c123 :: c124 :: c125 :: c126 :: c127 :: c128 :: c129 :: c130 :: c131 :: c132 :: c133 :: c134 :: c135 :: c136 :: c137 :: c138 :: c139 :: c140 :: c141 :: c142 :: c143 :: c144 :: c145 :: c146 :: c147 :: c148 :: c149 :: c150 :: c151 :: c152 :: c153 :: c154 :: c155 :: c156 :: c157 :: c158 :: c159 :: c160 :: c161 :: c162 :: c163 :: c164 :: c165 :: c166 :: c167 :: c168 :: c169 :: c170 :: c171 :: c172 :: c173 :: c174 :: c175 :: c176 :: c177 :: c178 :: c179 :: c180 :: c181 :: c182 :: c183 :: c184 :: c185 :: c186 :: c187 :: c188 :: c189 :: c190 :: c191 :: c192 :: c193 :: c194 :: c195 :: c196 :: c197 :: c198 :: c199 :: c200 :: c201 :: c202 :: c203 :: c204 :: c205 :: c206 :: c207 :: c208 :: c209 :: c210 :: c211 :: c212 :: c213 :: c214 :: c215 :: c216 :: c217 :: c218 :: c219 :: c220 :: c221 :: c222 :: c223 :: c224 :: c225 :: c226 :: c227 :: c228 :: c229 :: c230 :: c231 :: c232 :: c233 :: c234 :: c235 :: c236 :: c237 :: c238 :: c239 :: c240 :: c241 :: c242 :: c243 :: c244 :: c245 :: c246 :: c247 :: c248 :: c249 :: c250 :: c251 :: c252 :: c253 :: c254 :: c255 :: c256 :: c257 :: c258 :: c259 :: c260 :: c261 :: c262 :: c263 :: c264 :: c265 :: c266 :: c267 :: c268 :: c269 :: c270 :: c271 :: c272 :: c273 :: c274 :: c275 :: c276 :: c277 :: c278 :: c279 :: c280 :: c281 :: c282 :: c283 :: c284 :: c285 :: c286 :: c287 :: c288 :: c289 :: c290 :: c291 :: c292 :: c293 :: c294 :: c295 :: c296 :: c297 :: c298 :: c299 :: c300 :: c301 :: c302 :: c303 :: c304 :: c305 :: c306 :: c307 :: c308 :: c309 :: c310 :: c311 :: c312 :: u313 :: u314 :: u315 :: u316 :: u317 :: u318 :: u319 :: u320 :: u321 :: u322 :: u323 :: u324 :: u325 :: u326 :: u327 :: u328 :: u329 :: u330 :: u331 :: u332 :: u333 :: c334 :: c335 :: c336 :: c337 :: c338 :: c339 :: c340 :: c341 :: c342 :: c343 :: c344 :: c345 :: c346 :: c347 :: c348 :: c349 :: c350 :: c351 :: c352 :: c353 :: c354 :: c355 :: c356 :: c357 :: c358 :: c359 :: c360 :: c361 :: c362 :: c363 :: c364 :: c365 :: c366 :: c367 :: c368 :: c369 :: c370 :: c371 :: c372 :: c373 :: c374 :: []).toArray, []⟩ wr) :
    Code.wp Try.prog (Code.loop (loop10 56)) Q0 ⟨(Value.slice (some ⟨bi, 0, none⟩) inn.length ci :: c1 :: c2 :: c3 :: c4 :: Value.pointer (some ⟨bp, 0, none⟩) :: c6 :: c7 :: Value.pointer (some ⟨bt, 0, none⟩) :: c9 :: c10 :: c11 :: c12 :: c13 :: c14 :: Value.int .i64 0 :: v16 :: c17 :: c18 :: c19 :: c20 :: c21 :: c22 :: c23 :: c24 :: c25 :: c26 :: c27 :: c28 :: c29 :: c30 :: c31 :: c32 :: c33 :: c34 :: c35 :: c36 :: c37 :: c38 :: c39 :: c40 :: c41 :: c42 :: c43 :: c44 :: c45 :: c46 :: c47 :: c48 :: c49 :: c50 :: c51 :: c52 :: c53 :: c54 :: c55 :: c56 :: c57 :: c58 :: c59 :: c60 :: c61 :: c62 :: c63 :: c64 :: c65 :: c66 :: c67 :: c68 :: c69 :: c70 :: c71 :: c72 :: c73 :: c74 :: c75 :: c76 :: c77 :: c78 :: c79 :: c80 :: c81 :: c82 :: c83 :: c84 :: c85 :: c86 :: c87 :: c88 :: c89 :: c90 :: c91 :: c92 :: c93 :: c94 :: c95 :: c96 :: c97 :: c98 :: c99 :: c100 :: c101 :: c102 :: c103 :: c104 :: c105 :: c106 :: c107 :: c108 :: c109 :: c110 :: c111 :: c112 :: c113 :: c114 :: c115 :: c116 :: c117 :: c118 :: c119 :: c120 :: c121 :: c122 :: c123 :: c124 :: c125 :: c126 :: c127 :: c128 :: c129 :: c130 :: c131 :: c132 :: c133 :: c134 :: c135 :: c136 :: c137 :: c138 :: c139 :: c140 :: c141 :: c142 :: c143 :: c144 :: c145 :: c146 :: c147 :: c148 :: c149 :: c150 :: c151 :: c152 :: c153 :: c154 :: c155 :: c156 :: c157 :: c158 :: c159 :: c160 :: c161 :: c162 :: c163 :: c164 :: c165 :: c166 :: c167 :: c168 :: c169 :: c170 :: c171 :: c172 :: c173 :: c174 :: c175 :: c176 :: c177 :: c178 :: c179 :: c180 :: c181 :: c182 :: c183 :: c184 :: c185 :: c186 :: c187 :: c188 :: c189 :: c190 :: c191 :: c192 :: c193 :: c194 :: c195 :: c196 :: c197 :: c198 :: c199 :: c200 :: c201 :: c202 :: c203 :: c204 :: c205 :: c206 :: c207 :: c208 :: c209 :: c210 :: c211 :: c212 :: c213 :: c214 :: c215 :: c216 :: c217 :: c218 :: c219 :: c220 :: c221 :: c222 :: c223 :: c224 :: c225 :: c226 :: c227 :: c228 :: c229 :: c230 :: c231 :: c232 :: c233 :: c234 :: c235 :: c236 :: c237 :: c238 :: c239 :: c240 :: c241 :: c242 :: c243 :: c244 :: c245 :: c246 :: c247 :: c248 :: c249 :: c250 :: c251 :: c252 :: c253 :: c254 :: c255 :: c256 :: c257 :: c258 :: c259 :: c260 :: c261 :: c262 :: c263 :: c264 :: c265 :: c266 :: c267 :: c268 :: c269 :: c270 :: c271 :: c272 :: c273 :: c274 :: c275 :: c276 :: c277 :: c278 :: c279 :: c280 :: c281 :: c282 :: c283 :: c284 :: c285 :: c286 :: c287 :: c288 :: c289 :: c290 :: c291 :: c292 :: c293 :: c294 :: c295 :: c296 :: c297 :: c298 :: c299 :: c300 :: c301 :: c302 :: c303 :: c304 :: c305 :: c306 :: c307 :: c308 :: c309 :: c310 :: c311 :: c312 :: c313 :: c314 :: c315 :: c316 :: c317 :: c318 :: c319 :: c320 :: c321 :: c322 :: c323 :: c324 :: c325 :: c326 :: c327 :: c328 :: c329 :: c330 :: c331 :: c332 :: c333 :: c334 :: c335 :: c336 :: c337 :: c338 :: c339 :: c340 :: c341 :: c342 :: c343 :: c344 :: c345 :: c346 :: c347 :: c348 :: c349 :: c350 :: c351 :: c352 :: c353 :: c354 :: c355 :: c356 :: c357 :: c358 :: c359 :: c360 :: c361 :: c362 :: c363 :: c364 :: c365 :: c366 :: c367 :: c368 :: c369 :: c370 :: c371 :: c372 :: c373 :: c374 :: []).toArray, []⟩ wr := by
  conv => arg 2; arg 1; whnf
  go_loopg [15, 16] S.stk.length (fun k z i wc => wc = wr ∧ z = .int .i64 0 ∧ IdxAt k i ∧ k ≤ S.stk.length ∧ colOf S.stk k = C)
  case atStart => exact ⟨rfl, rfl, hix, Nat.le_refl _, HC.out⟩
  case round =>
    obtain ⟨rfl, rfl, hi, hkn, hR⟩ := hrel
    obtain ⟨vs, vo, hU⟩ := h
    rcases hi with ⟨rfl, rfl⟩ | ⟨m, rfl, rfl⟩
    · have HS1 : Hid (C = 0) := by show _ = _; rw [← hR]; rfl
      clear hU hR hkn HC hix
      go_wp2_with (fail)
      have HE := hexit
      rw [HS1.out] at HE
      exact HE _ _ _ _ _ _ _ _ _ _ _ _ _ _ _ _ _ _ _ _ _ _
    · have hm : m < S.stk.length := by omega
      have hm' : (m : Int) < (S.stk.length : Int) := by omega
      have hn : 0 < S.stk.length := by omega
      obtain ⟨b, hb⟩ : ∃ b, S.stk[m]? = some b := ⟨_, List.getElem?_eq_getElem hm⟩
      have hc := blk_cell hU.blk
      have hbp := blk_lt hU.blk
      obtain ⟨g, c, rfl, hcap, hmx⟩ := hU.form hn
      have hr := hU.row hb
      have b0 := hr.1 0 (by decide); have b3 := hr.1 3 (by decide)
      have hgl := hr.2.2.1
      simp only [Blk.rcells, Nat.add_zero] at b0 b3
      have HU := Lib.hid hU
      cases hex : b.ex with
      | true =>
        have HS1 : Hid (colOf S.stk m = C) := by show _ = _; rw [← hR]; simp [colOf, hb, hex]
        rw [hex] at b3
        clear hU hR hkn hr hb hn hex HC hix
        go_wp2_with (fail)
        go_roundg m
        case measure => omega
        case rel => exact ⟨rfl, rfl, by rcases m with _ | m; exact Or.inl ⟨rfl, rfl⟩; exact Or.inr ⟨m, rfl, by congr 1; omega⟩, by omega, HS1.out⟩
      | false =>
        have HS1 : Hid (C = b.col) := by show _ = _; rw [← hR]; simp [colOf, hb, hex]
        rw [hex] at b3
        clear hU hR hkn hr hb hn hex HC hix
        go_wp2_with (fail)
        have HE := hexit
        rw [HS1.out] at HE
        exact HE _ _ _ _ _ _ _ _ _ _ _ _ _ _ _ _ _ _ _ _ _ _
end Go.Proofs.Ytglkdhodpgnlgaa

/-
  The reference's Blocks: what a round does behind its token. Condition: the layer lies in memory.
-/
import Derived.Test.YtglkdhodpgnlgaaRbS
import Derived.Test.YtglkdhodpgnlgaaRbQq
namespace Go.Proofs.Ytglkdhodpgnlgaa
open Go.RowKit Go.Tel

/-- What stands in a row of statements from a region on. -/
def suffixOf (n : Nat) : Code → Option Code
  | .seq a b => match suffixOf n a with
    | some c => some c
    | none => if hasRegion n a then some (.seq a b) else suffixOf n b
  | .cond _ a b => match suffixOf n a with
    | some c => some c
    | none => suffixOf n b
  | .block _ c => suffixOf n c
  | .scope c => suffixOf n c
  | .loop c => suffixOf n c
  | _ => none
noncomputable def suffix10 (n : Nat) : Code := (Try.f10.body.bind (suffixOf n)).getD .skip

set_option maxRecDepth 1000000 in
set_option maxHeartbeats 16000000 in
/-- What a round does behind its token. -/
theorem rtail {W w0 : World} {bp bt bi ci : Nat} {inn : List Tok} {q i : Nat} {t : Tok} {S4 : RS} {R : List Tok × Int × Int} (hRd : Round W bi ci inn i t) (h7 : ¬ t.kind = 7) (hT8 : RT W bp bt t S4 w0) (hInv4 : S4.Inv) (hG : RS.all inn q (S4.after inn t i).2.1 (S4.after inn t i).2.2 (S4.after inn t i).1 = R)
    (c1 c2 c3 c4 c9 c10 c11 c12 c13 c14 c15 c16 c17 c18 c19 c20 c21 c22 c23 c24 c25 c26 c27 c28 c29 c30 c31 c32 c33 c34 c35 c36 c37 c38 c39 c40 c41 c42 c43 c44 c45 c46 c47 c48 c49 c50 c51 c52 c53 c54 c55 c56 c57 c58 c59 c60 c61 c62 c63 c64 c65 c66 c67 c68 c69 c70 c71 c72 c73 c74 c75 c76 c77 c78 c79 c80 c81 c82 c83 c84 c85 c86 c87 c88 c89 c90 c91 c92 c93 c94 c95 c96 c97 c98 c99 c100 c101 c102 c103 c104 c105 c106 c107 c108 c109 c110 c111 c112 c113 c114 c115 c116 c117 c118 c119 c120 c121 c122 c123 c124 c125 c126 c127 c128 c129 c130 c131 c132 c133 c134 c135 c136 c137 c138 c139 c140 c141 c142 c143 c144 c145 c146 c147 c148 c149 c150 c151 c152 c153 c154 c155 c156 c157 c158 c159 c160 c161 c162 c163 c164 c165 c166 c167 c168 c169 c170 c171 c172 c173 c174 c175 c176 c177 c178 c179 c180 c181 c182 c183 c184 c185 c186 c187 c188 c189 c190 c191 c192 c193 c194 c195 c196 c197 c198 c199 c200 c201 c202 c203 c204 c205 c206 c207 c208 c209 c210 c211 c212 c213 c214 c215 c216 c217 c218 c219 c220 c221 c222 c223 c224 c225 c226 c227 c228 c229 c230 c231 c232 c233 c234 c235 c236 c237 c238 c239 c240 c241 c242 c243 c244 c245 c246 c247 c248 c249 c250 c251 c252 c253 c254 c255 c256 c257 c258 c259 c260 c261 c262 c263 c264 c265 c266 c267 c268 c269 c270 c271 c272 c273 c274 c275 c276 c277 c278 c279 c280 c281 c282 c283 c284 c285 c286 c287 c288 c289 c290 c291 c292 c293 c294 c295 c296 c297 c298 c299 c300 c301 c302 c303 c304 c305 c306 c307 c308 c309 c310 c311 c312 c313 c314 c315 c316 c317 c318 c319 c320 c321 c322 c323 c324 c325 c326 c327 c328 c329 c330 c331 c332 c333 c334 c335 c336 c337 c338 c339 c340 c341 c342 c343 c344 c345 c346 c347 c348 c349 c350 c351 c352 c353 c354 c355 c356 c357 c358 c359 c360 c361 c362 c363 c364 c365 c366 c367 c368 c369 c370 c371 c372 c373 c374 : Value) (Q0 : Exit → Act → World → Prop)
    (hcont : ∀ (u13 u14 u15 u16 u274 u275 u276 u277 u278 u279 u280 u281 u282 u283 u284 u285 u286 u287 u288 u289 u290 u291 u292 u293 u294 u295 u296 u297 u298 u299 u300 u301 u302 u303 u304 u305 u306 u307 u308 u309 u310 u311 u312 u313 u314 u315 u316 u317 u318 u319 u320 u321 u322 u323 u324 u325 u326 u327 u328 u329 u330 u331 u332 u333 u334 u335 u336 u337 u338 u339 u340 u341 u342 u343 u344 u345 u346 u347 u348 u349 u350 u351 u352 u353 u354 u355 u356 u357 : Value) (w' : World) (bg' : Bool) (j : Nat) (S' : RS), Rl w' bp (fun k => k < W.heap.size) S' → Keep (fun k => k < W.heap.size) W w' → S'.Inv → i ≤ j → j ≤ i + 1 → RS.all inn q (j + 1) bg' S' = R → Q0 (.exit 1) ⟨(Value.slice (some ⟨bi, 0, none⟩) inn.length ci :: c1 :: c2 :: c3 :: c4 :: Value.pointer (some ⟨bp, 0, none⟩) :: Value.bool bg' :: Value.int .i64 j :: Value.pointer (some ⟨bt, 0, none⟩) :: c9 :: c10 :: c11 :: c12 :: u13 :: u14 :: u15 :: u16 :: c17 :: c18 :: c19 :: c20 :: c21 :: c22 :: c23 :: c24 :: c25 :: c26 :: c27 :: c28 :: c29 :: c30 :: c31 :: c32 :: c33 :: c34 :: c35 :: c36 :: c37 :: c38 :: c39 :: c40 :: c41 :: c42 :: c43 :: c44 :: c45 :: c46 :: c47 :: c48 :: c49 :: c50 :: c51 :: c52 :: c53 :: c54 :: c55 :: c56 :: c57 :: c58 :: c59 :: c60 :: c61 :: c62 :: c63 :: c64 :: c65 :: c66 :: c67 :: c68 :: c69 :: c70 :: c71 :: c72 :: c73 :: c74 :: c75 :: c76 :: c77 :: c78 :: c79 :: c80 :: c81 :: c82 :: c83 :: c84 :: c85 :: c86 :: c87 :: c88 :: c89 :: c90 :: c91 :: c92 :: c93 :: c94 :: c95 :: c96 :: c97 :: c98 :: c99 :: c100 :: c101 :: c102 :: c103 :: c104 :: c105 :: c106 :: c107 :: c108 :: c109 :: c110 :: c111 :: c112 :: c113 :: c114 :: c115 :: c116 :: c117 :: c118 :: c119 :: c120 :: c121 :: c122 :: c123 :: c124 :: c125 :: c126 :: c127 :: c128 :: c129 :: c130 :: c131 :: c132 :: c133 :: c134 :: c135 :: c136 :: c137 :: c138 :: c139 :: c140 :: c141 :: c142 :: c143 :: c144 :: c145 :: c146 :: c147 :: c148 :: c149 :: c150 :: c151 :: c152 :: c153 :: c154 :: c155 :: c156 :: c157 :: c158 :: c159 :: c160 :: c161 :: c162 :: c163 :: c164 :: c165 :: c166 :: c167 :: c168 :: c169 :: c170 :: c171 :: c172 :: c173 :: c174 :: c175 :: c176 :: c177 :: c178 :: c179 :: c180 :: c181 :: c182 :: c183 :: c184 :: c185 :: c186 :: c187 :: c188 :: c189 :: c190 :: c191 :: c192 :: c193 :: c194 :: c195 :: c196 :: c197 :: c198 :: c199 :: c200 :: c201 :: c202 :: c203 :: c204 :: c205 :: c206 :: c207 :: c208 :: c209 :: c210 :: c211 :: c212 :: c213 :: c214 :: c215 :: c216 :: c217 :: c218 :: c219 :: c220 :: c221 :: c222 :: c223 :: c224 :: c225 :: c226 :: c227 :: c228 :: c229 :: c230 :: c231 :: c232 :: c233 :: c234 :: c235 :: c236 :: c237 :: c238 :: c239 :: c240 :: c241 :: c242 :: c243 :: c244 :: c245 :: c246 :: c247 :: c248 :: c249 :: c250 :: c251 :: c252 :: c253 :: c254 :: c255 :: c256 :: c257 :: c258 :: c259 :: c260 :: c261 :: c262 :: c263 :: c264 :: c265 :: c266 :: c267 :: c268 :: c269 :: c270 :: c271 :: c272 :: c273 :: u274 :: u275 :: u276 :: u277 :: u278 :: u279 :: u280 :: u281 :: u282 :: u283 :: u284 :: u285 :: u286 :: u287 :: u288 :: u289 :: u290 :: u291 :: u292 :: u293 :: u294 :: u295 :: u296 :: u297 :: u298 :: u299 :: u300 :: u301 :: u302 :: u303 :: u304 :: u305 :: u306 :: u307 :: u308 :: u309 :: u310 :: u311 :: u312 :: u313 :: u314 :: u315 :: u316 :: u317 :: u318 :: u319 :: u320 :: u321 :: u322 :: u323 :: u324 :: u325 :: u326 :: u327 :: u328 :: u329 :: u330 :: u331 :: u332 :: u333 :: u334 :: u335 :: u336 :: u337 :: u338 :: u339 :: u340 :: u341 :: u342 :: u343 :: u344 :: u345 :: u346 :: u347 :: u348 :: u349 :: u350 :: u351 :: u352 :: u353 :: u354 :: u355 :: u356 :: u357 :: c358 :: c359 :: c360 :: c361 :: c362 :: c363 :: c364 :: c365 :: c366 :: c367 :: c368 :: c369 :: c370 :: c371 :: c372 :: c373 :: c374 :: []).toArray, []⟩ w')
    (hnorm : ∀ (u13 u14 u15 u16 u274 u275 u276 u277 u278 u279 u280 u281 u282 u283 u284 u285 u286 u287 u288 u289 u290 u291 u292 u293 u294 u295 u296 u297 u298 u299 u300 u301 u302 u303 u304 u305 u306 u307 u308 u309 u310 u311 u312 u313 u314 u315 u316 u317 u318 u319 u320 u321 u322 u323 u324 u325 u326 u327 u328 u329 u330 u331 u332 u333 u334 u335 u336 u337 u338 u339 u340 u341 u342 u343 u344 u345 u346 u347 u348 u349 u350 u351 u352 u353 u354 u355 u356 u357 : Value) (w' : World) (bg' : Bool) (j : Nat) (S' : RS), Rl w' bp (fun k => k < W.heap.size) S' → Keep (fun k => k < W.heap.size) W w' → S'.Inv → i ≤ j → j ≤ i + 1 → RS.all inn q (j + 1) bg' S' = R → Q0 .normal ⟨(Value.slice (some ⟨bi, 0, none⟩) inn.length ci :: c1 :: c2 :: c3 :: c4 :: Value.pointer (some ⟨bp, 0, none⟩) :: Value.bool bg' :: Value.int .i64 j :: Value.pointer (some ⟨bt, 0, none⟩) :: c9 :: c10 :: c11 :: c12 :: u13 :: u14 :: u15 :: u16 :: c17 :: c18 :: c19 :: c20 :: c21 :: c22 :: c23 :: c24 :: c25 :: c26 :: c27 :: c28 :: c29 :: c30 :: c31 :: c32 :: c33 :: c34 :: c35 :: c36 :: c37 :: c38 :: c39 :: c40 :: c41 :: c42 :: c43 :: c44 :: c45 :: c46 :: c47 :: c48 :: c49 :: c50 :: c51 :: c52 :: c53 :: c54 :: c55 :: c56 :: c57 :: c58 :: c59 :: c60 :: c61 :: c62 :: c63 :: c64 :: c65 :: c66 :: c67 :: c68 :: c69 :: c70 :: c71 :: c72 :: c73 :: c74 :: c75 :: c76 :: c77 :: c78 :: c79 :: c80 :: c81 :: c82 :: c83 :: c84 :: c85 :: c86 :: c87 :: c88 :: c89 :: c90 :: c91 :: c92 :: c93 :: c94 :: c95 :: c96 :: c97 :: c98 :: c99 :: c100 :: c101 :: c102 :: c103 :: c104 :: c105 :: c106 :: c107 :: c108 :: c109 :: c110 :: c111 :: c112 :: c113 :: c114 :: c115 :: c116 :: c117 :: c118 :: c119 :: c120 :: c121 :: c122 :: c123 :: c124 :: c125 :: c126 :: c127 :: c128 :: c129 :: c130 :: c131 :: c132 :: c133 :: c134 :: c135 :: c136 :: c137 :: c138 :: c139 :: c140 :: c141 :: c142 :: c143 :: c144 :: c145 :: c146 :: c147 :: c148 :: c149 :: c150 :: c151 :: c152 :: c153 :: c154 :: c155 :: c156 :: c157 :: c158 :: c159 :: c160 :: c161 :: c162 :: c163 :: c164 :: c165 :: c166 :: c167 :: c168 :: c169 :: c170 :: c171 :: c172 :: c173 :: c174 :: c175 :: c176 :: c177 :: c178 :: c179 :: c180 :: c181 :: c182 :: c183 :: c184 :: c185 :: c186 :: c187 :: c188 :: c189 :: c190 :: c191 :: c192 :: c193 :: c194 :: c195 :: c196 :: c197 :: c198 :: c199 :: c200 :: c201 :: c202 :: c203 :: c204 :: c205 :: c206 :: c207 :: c208 :: c209 :: c210 :: c211 :: c212 :: c213 :: c214 :: c215 :: c216 :: c217 :: c218 :: c219 :: c220 :: c221 :: c222 :: c223 :: c224 :: c225 :: c226 :: c227 :: c228 :: c229 :: c230 :: c231 :: c232 :: c233 :: c234 :: c235 :: c236 :: c237 :: c238 :: c239 :: c240 :: c241 :: c242 :: c243 :: c244 :: c245 :: c246 :: c247 :: c248 :: c249 :: c250 :: c251 :: c252 :: c253 :: c254 :: c255 :: c256 :: c257 :: c258 :: c259 :: c260 :: c261 :: c262 :: c263 :: c264 :: c265 :: c266 :: c267 :: c268 :: c269 :: c270 :: c271 :: c272 :: c273 :: u274 :: u275 :: u276 :: u277 :: u278 :: u279 :: u280 :: u281 :: u282 :: u283 :: u284 :: u285 :: u286 :: u287 :: u288 :: u289 :: u290 :: u291 :: u292 :: u293 :: u294 :: u295 :: u296 :: u297 :: u298 :: u299 :: u300 :: u301 :: u302 :: u303 :: u304 :: u305 :: u306 :: u307 :: u308 :: u309 :: u310 :: u311 :: u312 :: u313 :: u314 :: u315 :: u316 :: u317 :: u318 :: u319 :: u320 :: u321 :: u322 :: u323 :: u324 :: u325 :: u326 :: u327 :: u328 :: u329 :: u330 :: u331 :: u332 :: u333 :: u334 :: u335 :: u336 :: u337 :: u338 :: u339 :: u340 :: u341 :: u342 :: u343 :: u344 :: u345 :: u346 :: u347 :: u348 :: u349 :: u350 :: u351 :: u352 :: u353 :: u354 :: u355 :: u356 :: u357 :: c358 :: c359 :: c360 :: c361 :: c362 :: c363 :: c364 :: c365 :: c366 :: c367 :: c368 :: c369 :: c370 :: c371 :: c372 :: c373 :: c374 :: []).toArray, []⟩ w') :
    Code.wp Try.prog (suffix10 45) Q0 ⟨(Value.slice (some ⟨bi, 0, none⟩) inn.length ci :: c1 :: c2 :: c3 :: c4 :: Value.pointer (some ⟨bp, 0, none⟩) :: Value.bool false :: Value.int .i64 i :: Value.pointer (some ⟨bt, 0, none⟩) :: c9 :: c10 :: c11 :: c12 :: c13 :: c14 :: c15 :: c16 :: c17 :: c18 :: c19 :: c20 :: c21 :: c22 :: c23 :: c24 :: c25 :: c26 :: c27 :: c28 :: c29 :: c30 :: c31 :: c32 :: c33 :: c34 :: c35 :: c36 :: c37 :: c38 :: c39 :: c40 :: c41 :: c42 :: c43 :: c44 :: c45 :: c46 :: c47 :: c48 :: c49 :: c50 :: c51 :: c52 :: c53 :: c54 :: c55 :: c56 :: c57 :: c58 :: c59 :: c60 :: c61 :: c62 :: c63 :: c64 :: c65 :: c66 :: c67 :: c68 :: c69 :: c70 :: c71 :: c72 :: c73 :: c74 :: c75 :: c76 :: c77 :: c78 :: c79 :: c80 :: c81 :: c82 :: c83 :: c84 :: c85 :: c86 :: c87 :: c88 :: c89 :: c90 :: c91 :: c92 :: c93 :: c94 :: c95 :: c96 :: c97 :: c98 :: c99 :: c100 :: c101 :: c102 :: c103 :: c104 :: c105 :: c106 :: c107 :: c108 :: c109 :: c110 :: c111 :: c112 :: c113 :: c114 :: c115 :: c116 :: c117 :: c118 :: c119 :: c120 :: c121 :: c122 :: c123 :: c124 :: c125 :: c126 :: c127 :: c128 :: c129 :: c130 :: c131 :: c132 :: c133 :: c134 :: c135 :: c136 :: c137 :: c138 :: c139 :: c140 :: c141 :: c142 :: c143 :: c144 :: c145 :: c146 :: c147 :: c148 :: c149 :: c150 :: c151 :: c152 :: c153 :: c154 :: c155 :: c156 :: c157 :: c158 :: c159 :: c160 :: c161 :: c162 :: c163 :: c164 :: c165 :: c166 :: c167 :: c168 :: c169 :: c170 :: c171 :: c172 :: c173 :: c174 :: c175 :: c176 :: c177 :: c178 :: c179 :: c180 :: c181 :: c182 :: c183 :: c184 :: c185 :: c186 :: c187 :: c188 :: c189 :: c190 :: c191 :: c192 :: c193 :: c194 :: c195 :: c196 :: c197 :: c198 :: c199 :: c200 :: c201 :: c202 :: c203 :: c204 :: c205 :: c206 :: c207 :: c208 :: c209 :: c210 :: c211 :: c212 :: c213 :: c214 :: c215 :: c216 :: c217 :: c218 :: c219 :: c220 :: c221 :: c222 :: c223 :: c224 :: c225 :: c226 :: c227 :: c228 :: c229 :: c230 :: c231 :: c232 :: c233 :: c234 :: c235 :: c236 :: c237 :: c238 :: c239 :: c240 :: c241 :: c242 :: c243 :: c244 :: c245 :: c246 :: c247 :: c248 :: c249 :: c250 :: c251 :: c252 :: c253 :: c254 :: c255 :: c256 :: c257 :: c258 :: c259 :: c260 :: c261 :: c262 :: c263 :: c264 :: c265 :: c266 :: c267 :: c268 :: c269 :: c270 :: c271 :: c272 :: c273 :: c274 :: c275 :: c276 :: c277 :: c278 :: c279 :: c280 :: c281 :: c282 :: c283 :: c284 :: c285 :: c286 :: c287 :: c288 :: c289 :: c290 :: c291 :: c292 :: c293 :: c294 :: c295 :: c296 :: c297 :: c298 :: c299 :: c300 :: c301 :: c302 :: c303 :: c304 :: c305 :: c306 :: c307 :: c308 :: c309 :: c310 :: c311 :: c312 :: c313 :: c314 :: c315 :: c316 :: c317 :: c318 :: c319 :: c320 :: c321 :: c322 :: c323 :: c324 :: c325 :: c326 :: c327 :: c328 :: c329 :: c330 :: c331 :: c332 :: c333 :: c334 :: c335 :: c336 :: c337 :: c338 :: c339 :: c340 :: c341 :: c342 :: c343 :: c344 :: c345 :: c346 :: c347 :: c348 :: c349 :: c350 :: c351 :: c352 :: c353 :: c354 :: c355 :: c356 :: c357 :: c358 :: c359 :: c360 :: c361 :: c362 :: c363 :: c364 :: c365 :: c366 :: c367 :: c368 :: c369 :: c370 :: c371 :: c372 :: c373 :: c374 :: []).toArray, []⟩ w0 := by
  conv => arg 2; whnf
  have HRd0 := Lib.hid hRd
  have HG := Lib.hid hG
  have HInv4 := Lib.hid hInv4
  have HMore := Lib.hid (hRd.more h7)
  have HLt := Lib.hid hRd.lt
  have hcap := hRd.cap
  have hci := hRd.ci
  have hsmall := hRd.small
  have HT8 := Lib.hid hT8
  have tk := blk_cell hT8.tok
  have tkl := blk_lt hT8.tok
  have hc := hT8.rl
  obtain ⟨vs4, vo4, hU4⟩ := hc
  have hc := blk_cell hU4.blk
  have hbpl := blk_lt hU4.blk
  have hil : (i : Int) < (inn.length : Int) := by have := HLt.out; omega
  have HU4 := Lib.hid hU4
  clear hT8 hU4
  by_cases ho : isOpener t = true
  · by_cases he4 : S4.e = 0
    · have he4' : (S4.e != 0) = false := by rw [he4]; rfl
      obtain ⟨n, hn⟩ : ∃ n, inn.getD (i + 1) noTok = n := ⟨_, rfl⟩
      have HNn := Lib.hid hn
      have HOp := Lib.hid (fun w => ropens_any t w)
      have HO := Lib.hid ho
      have HE4 := Lib.hid he4
      have hmore : (i : Int) + 1 < (inn.length : Int) := by have := HMore.out; omega
      have hmore' : i + 1 < inn.length := HMore.out
      rw [ho] at HOp
      have HLen : Hid (S4.stk.length < 100000) := by show _ < _; have := (HInv4.out he4).1; omega
      clear hn ho he4
      go_upto_region 48 with (go_at_call 22; go_must (refine (HOp.out _).mono ?_; rintro e w9 ⟨rfl, hw9⟩; have hT9 : RT W bp bt t S4 w9 := (by rw [← hw9]; exact HT8.out.step (HT8.out.rl.alloc _) ((Keep.refl _ _).alloc _)); have HT9 := Lib.hid hT9; have hA := HRd0.out.at_ hT9 (i + 1) HMore.out; rw [HNn.out] at hA; have n0 := hA.1 0 (by decide); have n1 := hA.1 1 (by decide); have n2 := hA.1 2 (by decide); have n3 := hA.1 3 (by decide); have n4 := hA.1 4 (by decide); simp only [Tok.cells, Nat.add_zero] at n0 n1 n2 n3 n4; have hbi9 := hA.2; obtain ⟨vs9, vo9, hU9⟩ := hT9.rl; have hc9 := blk_cell hU9.blk; have hbp9 := blk_lt hU9.blk; clear hw9 hT9 hA hU9))
      refine reg48 (bu := _) (rn_new HT9.out n) _ _ _ _ _ _ _ _ _ _ _ _ _ _ _ _ _ _ _ _ _ _ _ _ _ _ _ _ _ _ _ _ _ _ _ _ _ _ _ _ _ _ _ _ _ _ _ _ _ _ _ _ _ _ _ _ _ _ _ _ _ _ _ _ _ _ _ _ _ _ _ _ _ _ _ _ _ _ _ _ _ _ _ _ _ _ _ _ _ _ _ _ _ _ _ _ _ _ _ _ _ _ _ _ _ _ _ _ _ _ _ _ _ _ _ _ _ _ _ _ _ _ _ _ _ _ _ _ _ _ _ _ _ _ _ _ _ _ _ _ _ _ _ _ _ _ _ _ _ _ _ _ _ _ _ _ _ _ _ _ _ _ _ _ _ _ _ _ _ _ _ _ _ _ _ _ _ _ _ _ _ _ _ _ _ _ _ _ _ _ _ _ _ _ _ _ _ _ _ _ _ _ _ _ _ _ _ _ _ _ _ _ _ _ _ _ _ _ _ _ _ _ _ _ _ _ _ _ _ _ _ _ _ _ _ _ _ _ _ _ _ _ _ _ _ _ _ _ _ _ _ _ _ _ _ _ _ _ _ _ _ _ _ _ _ _ _ _ _ _ _ _ _ _ _ _ _ _ _ _ _ _ _ _ _ _ _ _ _ _ _ _ _ _ _ _ _ _ _ _ _ _ _ _ _ _ _ _ _ _ _ _ _ _ _ _ _ _ _ _ _ _ _ _ _ _ _ _ _ _ _ _ _ _ _ _ _ _ _ _ _ _ _ _ _ _ _ _ _ _ _ _ _ _ _ _ _ _ _ _ _ _ _ _ _ _ _ _ _ _ _ _ ?_
      intro _ _ _ _ _ _ _ w10 hT10
      have nk := blk_cell hT10.nxt
      have nkl := blk_lt hT10.nxt
      have tk := blk_cell hT10.tok
      have tkl := blk_lt hT10.tok
      obtain ⟨vs10, vo10, hU10⟩ := hT10.rl
      have hc10 := blk_cell hU10.blk
      have hbp10 := blk_lt hU10.blk
      obtain ⟨p10, c10, hv10⟩ := own_form hU10.stk
      subst hv10
      have hsm := hU10.small
      have HT10 := Lib.hid hT10
      clear n0 n1 n2 n3 n4 hbi9 hc9 hbp9 HOp HT8 HU4 hT10 hU10 hc hbpl HT9
      generalize w9.heap.size = bu at *
      skip
      cases hb : isW n [123] with
      | true =>
        have HA := Lib.hid (after_brace (i := i) HO.out HE4.out HNn.out hb)
        have HG2 := Lib.hid (by have h := HG.out; rw [HA.out] at h; exact h)
        have HI2 := Lib.hid (by have h := RS.Inv.after (t := t) (inn := inn) (i := i) HInv4.out; rw [HA.out] at h; exact h)
        have HP := Lib.hid (rput_any HT10.out.rl 4 n true)
        have HPu := Lib.hid (fun w (h : Rl w bp (And1 (And1 (fun k => k < W.heap.size) bt) bu) (S4.put 4 n true)) => rpush_any h ⟨true, 0, false, 0⟩ n (by rw [(RS.put_stk _ _ _ _).1]; exact HLen.out))
        clear hb HA HG HInv4
        generalize RS.push ⟨true, 0, false, 0⟩ n (S4.put 4 n true) = S6 at *
        generalize S4.put 4 n true = S5 at *
        go_wp2_with (first
          | (go_at_call 18; go_must (refine HP.out.mono ?_; rintro e w11 ⟨rfl, hr, hk⟩; have HT11 := Lib.hid (HT10.out.step hr hk); have nk1 := blk_cell HT11.out.nxt; have nkl1 := blk_lt HT11.out.nxt; clear hr hk))
          | (go_at_call 19; go_must (refine (HPu.out _ HT11.out.rl).mono ?_; rintro e w12 ⟨rfl, hr, hk⟩; have HT12 := Lib.hid (HT11.out.step hr hk); clear hr hk)))
        exact hcont _ _ _ _ _ _ _ _ _ _ _ _ _ _ _ _ _ _ _ _ _ _ _ _ _ _ _ _ _ _ _ _ _ _ _ _ _ _ _ _ _ _ _ _ _ _ _ _ _ _ _ _ _ _ _ _ _ _ _ _ _ _ _ _ _ _ _ _ _ _ _ _ _ _ _ _ _ _ _ _ _ _ _ _ _ _ _ _ _ false (i + 1) _ HT12.out.back HT12.out.keep HI2.out (by omega) (by omega) HG2.out
      | false =>
        have hix : IdxAt S4.stk.length (.int .i64 ((S4.stk.length : Int) - 1)) := by
          rcases Nat.eq_zero_or_pos S4.stk.length with h0 | h0
          · exact Or.inl ⟨h0, by rw [h0]; rfl⟩
          · exact Or.inr ⟨S4.stk.length - 1, by omega, by congr 1; omega⟩
        have HIx := Lib.hid hix
        have HNb := Lib.hid hb
        clear hix hb
        go_wp2_with (fail)
        refine rcol_loop HT10.out.rl HIx.out (Lib.hid rfl) _ _ _ _ _ _ _ _ _ _ _ _ _ _ _ _ _ _ _ _ _ _ _ _ _ _ _ _ _ _ _ _ _ _ _ _ _ _ _ _ _ _ _ _ _ _ _ _ _ _ _ _ _ _ _ _ _ _ _ _ _ _ _ _ _ _ _ _ _ _ _ _ _ _ _ _ _ _ _ _ _ _ _ _ _ _ _ _ _ _ _ _ _ _ _ _ _ _ _ _ _ _ _ _ _ _ _ _ _ _ _ _ _ _ _ _ _ _ _ _ _ _ _ _ _ _ _ _ _ _ _ _ _ _ _ _ _ _ _ _ _ _ _ _ _ _ _ _ _ _ _ _ _ _ _ _ _ _ _ _ _ _ _ _ _ _ _ _ _ _ _ _ _ _ _ _ _ _ _ _ _ _ _ _ _ _ _ _ _ _ _ _ _ _ _ _ _ _ _ _ _ _ _ _ _ _ _ _ _ _ _ _ _ _ _ _ _ _ _ _ _ _ _ _ _ _ _ _ _ _ _ _ _ _ _ _ _ _ _ _ _ _ _ _ _ _ _ _ _ _ _ _ _ _ _ _ _ _ _ _ _ _ _ _ _ _ _ _ _ _ _ _ _ _ _ _ _ _ _ _ _ _ _ _ _ _ _ _ _ _ _ _ _ _ _ _ _ _ _ _ _ _ _ _ _ _ _ _ _ _ _ _ _ _ _ _ _ _ _ _ _ _ _ _ _ _ _ _ _ _ _ _ _ _ _ _ _ _ _ _ _ _ _ _ _ _ _ _ _ _ _ _ _ _ _ _ _ _ _ _ _ _ _ _ _ _ _ _ _ _ _ ?_
        intro _ _ _ _ _ _ _ _ _ _ _ _ _ _ _ _ _ _ _ _ _ _
        have HP := Lib.hid (rput_any HT10.out.rl 4 n false)
        have hst : (S4.put 4 n false).stk = S4.stk := (RS.put_stk _ _ _ _).1
        have HLen2 : Hid ((S4.put 4 n false).stk.length < 100000) := by show _ < _; rw [hst]; exact HLen.out
        have HEm := Lib.hid (fun hc => after_empty (i := i) HO.out HE4.out HNn.out HNb.out hc)
        have HNw := Lib.hid (fun hc => after_new (i := i) HO.out HE4.out HNn.out HNb.out hc)
        clear hst
        generalize colOf S4.stk S4.stk.length = C at *
        generalize S4.put 4 n false = S5 at *
        go_upto_region 59 with (go_at_call 18; go_must (refine HP.out.mono ?_; rintro e w11 ⟨rfl, hr, hk⟩; have HT11 := Lib.hid (HT10.out.step hr hk); clear hr hk))
        refine reg59 (C := C) HT11.out _ _ _ _ _ _ _ _ _ _ _ _ _ _ _ _ _ _ _ _ _ _ _ _ _ _ _ _ _ _ _ _ _ _ _ _ _ _ _ _ _ _ _ _ _ _ _ _ _ _ _ _ _ _ _ _ _ _ _ _ _ _ _ _ _ _ _ _ _ _ _ _ _ _ _ _ _ _ _ _ _ _ _ _ _ _ _ _ _ _ _ _ _ _ _ _ _ _ _ _ _ _ _ _ _ _ _ _ _ _ _ _ _ _ _ _ _ _ _ _ _ _ _ _ _ _ _ _ _ _ _ _ _ _ _ _ _ _ _ _ _ _ _ _ _ _ _ _ _ _ _ _ _ _ _ _ _ _ _ _ _ _ _ _ _ _ _ _ _ _ _ _ _ _ _ _ _ _ _ _ _ _ _ _ _ _ _ _ _ _ _ _ _ _ _ _ _ _ _ _ _ _ _ _ _ _ _ _ _ _ _ _ _ _ _ _ _ _ _ _ _ _ _ _ _ _ _ _ _ _ _ _ _ _ _ _ _ _ _ _ _ _ _ _ _ _ _ _ _ _ _ _ _ _ _ _ _ _ _ _ _ _ _ _ _ _ _ _ _ _ _ _ _ _ _ _ _ _ _ _ _ _ _ _ _ _ _ _ _ _ _ _ _ _ _ _ _ _ _ _ _ _ _ _ _ _ _ _ _ _ _ _ _ _ _ _ _ _ _ _ _ _ _ _ _ _ _ _ _ _ _ _ _ _ _ _ _ _ _ _ _ _ _ _ _ _ _ _ _ _ _ _ _ _ _ _ _ _ _ _ _ _ _ _ _ _ _ _ _ _ _ ?_
        intro _ _ _ _ _ _ _ _ w12 hT12
        have nk := blk_cell hT12.nxt
        have nkl := blk_lt hT12.nxt
        have tk := blk_cell hT12.tok
        have tkl := blk_lt hT12.tok
        have HT12 := Lib.hid hT12
        clear hT12 HT11 hc10 hbp10 HP
        cases hcb : (n.kind == 7 || decide (n.col ≤ C)) with
        | true =>
          have HA := HEm.out hcb
          have HG2 := Lib.hid (by have h := HG.out; rw [HA] at h; exact h)
          have HI2 := Lib.hid (by have h := RS.Inv.after (t := t) (inn := inn) (i := i) HInv4.out; rw [HA] at h; exact h)
          have HP := Lib.hid (rput_any HT12.out.rl 5 n false)
          clear HA hcb HEm HNw HG HInv4
          generalize S5.put 5 n false = S6 at *
          go_wp2_with (go_at_call 18; go_must (refine HP.out.mono ?_; rintro e w13 ⟨rfl, hr, hk⟩; have HT13 := Lib.hid (HT12.out.step hr hk); clear hr hk))
          exact hcont _ _ _ _ _ _ _ _ _ _ _ _ _ _ _ _ _ _ _ _ _ _ _ _ _ _ _ _ _ _ _ _ _ _ _ _ _ _ _ _ _ _ _ _ _ _ _ _ _ _ _ _ _ _ _ _ _ _ _ _ _ _ _ _ _ _ _ _ _ _ _ _ _ _ _ _ _ _ _ _ _ _ _ _ _ _ _ _ _ false i _ HT13.out.back HT13.out.keep HI2.out (by omega) (by omega) HG2.out
        | false =>
          have HA := HNw.out hcb
          have HG2 := Lib.hid (by have h := HG.out; rw [HA] at h; exact h)
          have HI2 := Lib.hid (by have h := RS.Inv.after (t := t) (inn := inn) (i := i) HInv4.out; rw [HA] at h; exact h)
          have HPu := Lib.hid (rpush_any HT12.out.rl ⟨false, n.col, isW t wLet, 0⟩ n HLen2.out)
          have hk2 : (t.kind == 2) = true := by
            cases hk : t.kind == 2 with
            | true => rfl
            | false => have := HO.out; rw [opener_eq] at this; unfold isW at this; rw [hk] at this; cases this
          have hlet : isW t wLet = (t.text.toList == [108, 101, 116]) := isW_eq t _ hk2
          clear HA hcb HEm HNw HG HInv4 hk2
          rw [hlet] at HPu HG2 HI2
          clear hlet
          generalize RS.push ⟨false, n.col, t.text.toList == [108, 101, 116], 0⟩ n S5 = S6 at *
          generalize htl : (t.text.toList == [108, 101, 116]) = tl at *
          go_wp2_with (go_at_call 19; go_must (refine HPu.out.mono ?_; rintro e w13 ⟨rfl, hr, hk⟩; have HT13 := Lib.hid (HT12.out.step hr hk); clear hr hk))
          exact hnorm _ _ _ _ _ _ _ _ _ _ _ _ _ _ _ _ _ _ _ _ _ _ _ _ _ _ _ _ _ _ _ _ _ _ _ _ _ _ _ _ _ _ _ _ _ _ _ _ _ _ _ _ _ _ _ _ _ _ _ _ _ _ _ _ _ _ _ _ _ _ _ _ _ _ _ _ _ _ _ _ _ _ _ _ _ _ _ _ _ true i _ HT13.out.back HT13.out.keep HI2.out (by omega) (by omega) HG2.out
    · have he4' : (S4.e != 0) = true := bne_iff_ne.2 he4
      have HA := after_no (inn := inn) (t := t) (i := i) (Or.inr he4)
      have HG2 := Lib.hid (by have h := HG.out; rw [HA] at h; exact h)
      have HOp := Lib.hid (fun w => ropens_any t w)
      rw [ho] at HOp
      clear HA HG he4 ho
      go_wp2_with (go_at_call 22; go_must (refine (HOp.out _).mono ?_; rintro e w9 ⟨rfl, hw9⟩; have hT9 : RT W bp bt t S4 w9 := (by rw [← hw9]; exact HT8.out.step (HT8.out.rl.alloc _) ((Keep.refl _ _).alloc _)); have HT9 := Lib.hid hT9; obtain ⟨vs9, vo9, hU9⟩ := hT9.rl; have hc9 := blk_cell hU9.blk; have hbp9 := blk_lt hU9.blk; clear hw9 hT9 hU9))
      exact hcont _ _ _ _ _ _ _ _ _ _ _ _ _ _ _ _ _ _ _ _ _ _ _ _ _ _ _ _ _ _ _ _ _ _ _ _ _ _ _ _ _ _ _ _ _ _ _ _ _ _ _ _ _ _ _ _ _ _ _ _ _ _ _ _ _ _ _ _ _ _ _ _ _ _ _ _ _ _ _ _ _ _ _ _ _ _ _ _ _ false i _ HT9.out.rl.back HT9.out.keep HInv4.out (by omega) (by omega) HG2.out
  · have ho' : isOpener t = false := by simpa using ho
    have HA := after_no (inn := inn) (t := t) (i := i) (S := S4) (Or.inl ho')
    have HG2 := Lib.hid (by have h := HG.out; rw [HA] at h; exact h)
    have HOp := Lib.hid (fun w => ropens_any t w)
    rw [ho'] at HOp
    clear HA HG ho ho'
    go_wp2_with (go_at_call 22; go_must (refine (HOp.out _).mono ?_; rintro e w9 ⟨rfl, hw9⟩; have hT9 : RT W bp bt t S4 w9 := (by rw [← hw9]; exact HT8.out.step (HT8.out.rl.alloc _) ((Keep.refl _ _).alloc _)); have HT9 := Lib.hid hT9; clear hw9 hT9))
    exact hcont _ _ _ _ _ _ _ _ _ _ _ _ _ _ _ _ _ _ _ _ _ _ _ _ _ _ _ _ _ _ _ _ _ _ _ _ _ _ _ _ _ _ _ _ _ _ _ _ _ _ _ _ _ _ _ _ _ _ _ _ _ _ _ _ _ _ _ _ _ _ _ _ _ _ _ _ _ _ _ _ _ _ _ _ _ _ _ _ _ false i _ HT9.out.rl.back HT9.out.keep HInv4.out (by omega) (by omega) HG2.out

end Go.Proofs.Ytglkdhodpgnlgaa

import Derived.Test.YtdchmelgaljpfaaGreatZba
import Derived.Test.YtdchmelgaljpfaaGreatKe2
import Derived.Test.YtdchmelgaljpfaaGreatMh
set_option linter.unusedSimpArgs false
set_option linter.unusedVariables false
namespace Go.Proofs.YtdchmelgaljpfaaGreat
open Go.RowKit

/-! ### FoldStraight: one slot compared -/
@[go_sem] theorem neqIn_lit (a b c d e a' b' c' d' e' : Int) (w : World) : (binOp .neq 75 (.agg #[.int .u8 a, .int .u8 b, .int .u8 c, .int .i16 d, .int .i32 e]) (.agg #[.int .u8 a', .int .u8 b', .int .u8 c', .int .i16 d', .int .i32 e'])).run Tryz.prog w = .ok (.bool (!((a == a') && ((b == b') && ((c == c') && ((d == d') && (e == e'))))))) w := neqIn_run ⟨a, b, c, d, e⟩ ⟨a', b', c', d', e'⟩ w
theorem neqIn_same (a b c d e : Int) (w : World) : (binOp .neq 75 (.agg #[.int .u8 a, .int .u8 b, .int .u8 c, .int .i16 d, .int .i32 e]) (.agg #[.int .u8 a, .int .u8 b, .int .u8 c, .int .i16 d, .int .i32 e])).run Tryz.prog w = .ok (.bool false) w := by
  have h := neqIn_run ⟨a, b, c, d, e⟩ ⟨a, b, c, d, e⟩ w
  rw [(eqIn_iff _ _).2 rfl] at h
  exact h
@[go_sem] theorem guardIn_lit (op : BinOp) (x y : Operand) (a b c d e a' b' c' d' e' : Int) (w : World) : (eqGuard op 75 x y (.agg #[.int .u8 a, .int .u8 b, .int .u8 c, .int .i16 d, .int .i32 e]) (.agg #[.int .u8 a', .int .u8 b', .int .u8 c', .int .i16 d', .int .i32 e'])).run Tryz.prog w = .ok () w := guardIn_run op x y ⟨a, b, c, d, e⟩ ⟨a', b', c', d', e'⟩ w
def loopsOf : Code → List Code
  | .loop c => [c]
  | .seq a b => loopsOf a ++ loopsOf b
  | .block _ c => loopsOf c
  | .scope c => loopsOf c
  | .cond _ a b => loopsOf a ++ loopsOf b
  | _ => []
def tailOf : Code → Option (Code × Code)
  | .seq a b => (match a with
    | .region n _ _ => if n = 45 then some (a, b) else none
    | _ => none).or ((tailOf a).or (tailOf b))
  | .loop c => tailOf c
  | .block _ c => tailOf c
  | .scope c => tailOf c
  | .cond _ a b => (tailOf a).or (tailOf b)
  | _ => none
noncomputable def body20 : Code := (((Tryz.f5.body.map loopsOf).getD [])[2]?).getD .skip
noncomputable def reg45 : Code := ((tailOf body20).map Prod.fst).getD .skip
noncomputable def cond45 : Code := ((tailOf body20).map Prod.snd).getD .skip
set_option maxHeartbeats 8000000 in
set_option maxRecDepth 1000000 in
theorem fs_tA (i N M cp g3 cap3 tg tc pg po fg fo fc : Nat) (o pd ps pf pi d : Int) (v : Nat) (wr : World) (hip : 4 + i < N) (hio2 : i < M) (hM : M + 1 ≤ 61) (hd0 : 0 ≤ d) (hd1 : d < 4)
    (ct : wr.cell? ⟨tg, i, none⟩ = some (.int .u8 d)) (cw : wr.cell? ⟨g3, (i + 1) * 4 + d.toNat, none⟩ = some (.int .u64 (v : Nat)))
    (p0 : wr.cell? ⟨pg, po + (4 + i) * 5, none⟩ = some (.int .u8 183)) (p1 : wr.cell? ⟨pg, po + (4 + i) * 5 + 1, none⟩ = some (.int .u8 pd)) (p2 : wr.cell? ⟨pg, po + (4 + i) * 5 + 2, none⟩ = some (.int .u8 ps)) (p3 : wr.cell? ⟨pg, po + (4 + i) * 5 + 3, none⟩ = some (.int .i16 pf)) (p4 : wr.cell? ⟨pg, po + (4 + i) * 5 + 4, none⟩ = some (.int .i32 pi))
    (q0 : wr.cell? ⟨fg, fo + (4 + i) * 5, none⟩ = some (.int .u8 183)) (q1 : wr.cell? ⟨fg, fo + (4 + i) * 5 + 1, none⟩ = some (.int .u8 pd)) (q2 : wr.cell? ⟨fg, fo + (4 + i) * 5 + 2, none⟩ = some (.int .u8 ps)) (q3 : wr.cell? ⟨fg, fo + (4 + i) * 5 + 3, none⟩ = some (.int .i16 pf)) (q4 : wr.cell? ⟨fg, fo + (4 + i) * 5 + 4, none⟩ = some (.int .i32 pi))
    (e23 : (IntKind.u64.wrap (wrap64 (wrap32 ((v : Int) % 4294967296))) == (v : Int)) = true)
    (c0 c1 c2 c3 c4 c6 c7 c10 c11 c12 c13 c14 c15 c16 c17 c19 c21 c22 c23 c24 c25 c26 c27 c28 c29 c30 c31 c32 c33 c34 c35 c36 c37 c38 c39 c40 c41 c42 c43 c44 c45 c46 c47 c48 c49 c50 c51 c52 c53 c54 c55 c56 c57 c58 c59 c60 c61 c62 c63 c64 c65 c66 c67 c68 c69 c70 c71 c72 c73 c74 c75 c76 c77 c78 c79 c80 c81 c82 c83 c84 c85 c86 c87 c88 c89 c90 c91 c92 c93 c94 c95 c96 c97 c98 c99 c100 c101 c102 c103 c104 c105 c106 c107 c108 c109 c110 c111 c112 c113 c114 c115 c116 c117 c118 c119 c120 c121 c122 c123 c124 c125 c126 c127 c128 c129 c130 c131 c132 c133 c134 c135 c136 c137 c138 c139 c140 c141 c142 c143 c144 c145 c146 c147 c148 c149 c150 c151 c152 c153 c154 c155 c156 c157 c158 c159 c160 c161 c162 c163 c164 c165 c166 c167 c168 c169 c170 c171 c172 c173 c174 c175 c176 c177 c178 c179 c180 c181 c182 c183 c184 c185 c186 c187 c188 c189 c190 c191 c192 c193 c194 c195 c196 c197 c198 c199 c200 c201 c202 c203 c204 c205 c206 c207 c208 c209 c210 c211 c212 c213 c214 c215 c216 c217 c218 c219 c220 c221 c222 c223 c224 c225 c226 c227 c228 c229 c230 c231 c232 c233 c234 c235 c236 c237 c238 c239 c240 c241 c242 c243 c244 c245 c246 c247 c248 c249 c250 c251 c252 c253 c254 c255 c256 c257 c258 c259 c260 c261 c262 c263 c264 c265 c266 c267 c268 c269 c270 c271 c272 c273 c274 c275 c276 c277 c278 c279 c280 : Value) (K : Act → World → Prop) (Q0 : Exit → Act → World → Prop) (hK : ∀ a w, Code.wp Tryz.prog cond45 Q0 a w → K a w)
    (HE : Hid (∀ (u22 u23 u24 u200 u201 u202 u203 u204 u205 u206 u207 u208 u209 u210 u211 u212 u213 u214 u215 u216 u217 u218 u219 u220 u221 u222 u223 u224 u225 u226 u227 u228 u229 u230 u231 u232 u233 u234 u235 u236 u237 u238 u239 u240 u241 u242 u243 u244 u245 u246 u247 u248 u249 u250 u251 u252 u253 u254 u255 u256 u257 u258 u259 u260 u261 u262 u263 u264 u265 u266 u267 u268 u269 u270 u271 u272 u273 u274 u275 u276 u277 u278 u279 u280 : Value) (wr' : World), Kept (fun _ => False) wr wr' → Q0 .normal ⟨List.toArray (c0 :: c1 :: c2 :: c3 :: c4 :: .slice (some ⟨pg, po, none⟩) N cp :: c6 :: c7 :: .slice (some ⟨g3, 0, none⟩) (M + 1) cap3 :: .slice (some ⟨tg, 0, none⟩) M tc :: c10 :: c11 :: c12 :: c13 :: c14 :: c15 :: c16 :: c17 :: .slice (some ⟨fg, fo, none⟩) N fc :: c19 :: .int .i64 i :: c21 :: u22 :: u23 :: u24 :: c25 :: c26 :: c27 :: c28 :: c29 :: c30 :: c31 :: c32 :: c33 :: c34 :: c35 :: c36 :: c37 :: c38 :: c39 :: c40 :: c41 :: c42 :: c43 :: c44 :: c45 :: c46 :: c47 :: c48 :: c49 :: c50 :: c51 :: c52 :: c53 :: c54 :: c55 :: c56 :: c57 :: c58 :: c59 :: c60 :: c61 :: c62 :: c63 :: c64 :: c65 :: c66 :: c67 :: c68 :: c69 :: c70 :: c71 :: c72 :: c73 :: c74 :: c75 :: c76 :: c77 :: c78 :: c79 :: c80 :: c81 :: c82 :: c83 :: c84 :: c85 :: c86 :: c87 :: c88 :: c89 :: c90 :: c91 :: c92 :: c93 :: c94 :: c95 :: c96 :: c97 :: c98 :: c99 :: c100 :: c101 :: c102 :: c103 :: c104 :: c105 :: c106 :: c107 :: c108 :: c109 :: c110 :: c111 :: c112 :: c113 :: c114 :: c115 :: c116 :: c117 :: c118 :: c119 :: c120 :: c121 :: c122 :: c123 :: c124 :: c125 :: c126 :: c127 :: c128 :: c129 :: c130 :: c131 :: c132 :: c133 :: c134 :: c135 :: c136 :: c137 :: c138 :: c139 :: c140 :: c141 :: c142 :: c143 :: c144 :: c145 :: c146 :: c147 :: c148 :: c149 :: c150 :: c151 :: c152 :: c153 :: c154 :: c155 :: c156 :: c157 :: c158 :: c159 :: c160 :: c161 :: c162 :: c163 :: c164 :: c165 :: c166 :: c167 :: c168 :: c169 :: c170 :: c171 :: c172 :: c173 :: c174 :: c175 :: c176 :: c177 :: c178 :: c179 :: c180 :: c181 :: c182 :: c183 :: c184 :: c185 :: c186 :: c187 :: c188 :: c189 :: c190 :: c191 :: c192 :: c193 :: c194 :: c195 :: c196 :: c197 :: c198 :: c199 :: u200 :: u201 :: u202 :: u203 :: u204 :: u205 :: u206 :: u207 :: u208 :: u209 :: u210 :: u211 :: u212 :: u213 :: u214 :: u215 :: u216 :: u217 :: u218 :: u219 :: u220 :: u221 :: u222 :: u223 :: u224 :: u225 :: u226 :: u227 :: u228 :: u229 :: u230 :: u231 :: u232 :: u233 :: u234 :: u235 :: u236 :: u237 :: u238 :: u239 :: u240 :: u241 :: u242 :: u243 :: u244 :: u245 :: u246 :: u247 :: u248 :: u249 :: u250 :: u251 :: u252 :: u253 :: u254 :: u255 :: u256 :: u257 :: u258 :: u259 :: u260 :: u261 :: u262 :: u263 :: u264 :: u265 :: u266 :: u267 :: u268 :: u269 :: u270 :: u271 :: u272 :: u273 :: u274 :: u275 :: u276 :: u277 :: u278 :: u279 :: u280 :: []), []⟩ wr')) :
    Code.wp Tryz.prog reg45 (Exit.then K Q0) ⟨List.toArray (c0 :: c1 :: c2 :: c3 :: c4 :: .slice (some ⟨pg, po, none⟩) N cp :: c6 :: c7 :: .slice (some ⟨g3, 0, none⟩) (M + 1) cap3 :: .slice (some ⟨tg, 0, none⟩) M tc :: c10 :: c11 :: c12 :: c13 :: c14 :: c15 :: c16 :: c17 :: .slice (some ⟨fg, fo, none⟩) N fc :: c19 :: .int .i64 i :: c21 :: c22 :: c23 :: c24 :: c25 :: c26 :: c27 :: c28 :: c29 :: c30 :: c31 :: c32 :: c33 :: c34 :: c35 :: c36 :: c37 :: c38 :: c39 :: c40 :: c41 :: c42 :: c43 :: c44 :: c45 :: c46 :: c47 :: c48 :: c49 :: c50 :: c51 :: c52 :: c53 :: c54 :: c55 :: c56 :: c57 :: c58 :: c59 :: c60 :: c61 :: c62 :: c63 :: c64 :: c65 :: c66 :: c67 :: c68 :: c69 :: c70 :: c71 :: c72 :: c73 :: c74 :: c75 :: c76 :: c77 :: c78 :: c79 :: c80 :: c81 :: c82 :: c83 :: c84 :: c85 :: c86 :: c87 :: c88 :: c89 :: c90 :: c91 :: c92 :: c93 :: c94 :: c95 :: c96 :: c97 :: c98 :: c99 :: c100 :: c101 :: c102 :: c103 :: c104 :: c105 :: c106 :: c107 :: c108 :: c109 :: c110 :: c111 :: c112 :: c113 :: c114 :: c115 :: c116 :: c117 :: c118 :: c119 :: c120 :: c121 :: c122 :: c123 :: c124 :: c125 :: c126 :: c127 :: c128 :: c129 :: c130 :: c131 :: c132 :: c133 :: c134 :: c135 :: c136 :: c137 :: c138 :: c139 :: c140 :: c141 :: c142 :: c143 :: c144 :: c145 :: c146 :: c147 :: c148 :: c149 :: c150 :: c151 :: c152 :: c153 :: c154 :: c155 :: c156 :: c157 :: c158 :: c159 :: c160 :: c161 :: c162 :: c163 :: c164 :: c165 :: c166 :: c167 :: c168 :: c169 :: c170 :: c171 :: c172 :: c173 :: c174 :: c175 :: c176 :: c177 :: c178 :: c179 :: c180 :: c181 :: c182 :: c183 :: c184 :: c185 :: c186 :: c187 :: c188 :: c189 :: c190 :: c191 :: c192 :: c193 :: c194 :: c195 :: c196 :: c197 :: c198 :: c199 :: c200 :: c201 :: c202 :: c203 :: c204 :: c205 :: c206 :: c207 :: c208 :: c209 :: c210 :: c211 :: c212 :: c213 :: c214 :: c215 :: c216 :: c217 :: c218 :: c219 :: c220 :: c221 :: c222 :: c223 :: c224 :: c225 :: c226 :: c227 :: c228 :: c229 :: c230 :: c231 :: c232 :: c233 :: c234 :: c235 :: c236 :: c237 :: c238 :: c239 :: c240 :: c241 :: c242 :: c243 :: c244 :: c245 :: c246 :: c247 :: c248 :: c249 :: c250 :: c251 :: c252 :: c253 :: c254 :: c255 :: c256 :: c257 :: c258 :: c259 :: c260 :: c261 :: c262 :: c263 :: c264 :: c265 :: c266 :: c267 :: c268 :: c269 :: c270 :: c271 :: c272 :: c273 :: c274 :: c275 :: c276 :: c277 :: c278 :: c279 :: c280 :: []), []⟩ wr := by
  conv => arg 2; whnf
  conv at hK => enter [a, w, 1, 2]; whnf
  go_upto_region 46 with fail
  refine wp_region_mix0 [.w, .w, .w, .w, .w, .w, .l, .w, .w, .l, .t] (by kernel_rfl) (by kernel_rfl) ?_
  repeat (first
    | (refine mix_w1 ?_; go_big_quiet_step (fail); refine wpQuiet_nil ?_)
    | (refine mix_l1 rfl ?_; go_big_quiet_step (fail); refine wpQuiet_nil ?_)
    | (refine mix_t fun Q' hQ' => ?_; go_wp2_with fail))
  first
    | refine mix_done ?_
    | refine mix_nil ?_
  clear cw
  go_upto_region 49 with fail
  skip
  refine wp_region_mix0 [.w, .w, .w, .w, .w, .w, .w, .w, .w, .w, .l, .w, .w, .w, .l, .w, .w, .w, .w, .w, .l, .w, .w, .w, .w, .w, .w, .w, .w, .w, .w, .w, .w, .l, .w, .w, .w, .w, .l, .l, .w, .w] (by kernel_rfl) (by kernel_rfl) ?_
  repeat (first
    | (refine mix_w1 ?_; go_big_quiet_step (fail); refine wpQuiet_nil ?_)
    | (refine mix_l1 rfl ?_; go_big_quiet_step (fail); refine wpQuiet_nil ?_))
  first
    | refine mix_done ?_
    | refine mix_nil ?_
  go_wp2_with fail
  exact HE.out _ _ _ _ _ _ _ _ _ _ _ _ _ _ _ _ _ _ _ _ _ _ _ _ _ _ _ _ _ _ _ _ _ _ _ _ _ _ _ _ _ _ _ _ _ _ _ _ _ _ _ _ _ _ _ _ _ _ _ _ _ _ _ _ _ _ _ _ _ _ _ _ _ _ _ _ _ _ _ _ _ _ _ _ _ ((Kept.refl _ wr).drew.drew)
set_option maxHeartbeats 8000000 in
set_option maxRecDepth 1000000 in
theorem fs_tB (i N M cp g3 cap3 tg tc pg po fg fo fc : Nat) (o pd ps pf pi d : Int) (v : Nat) (wr : World) (hip : 4 + i < N) (hio2 : i < M) (hM : M + 1 ≤ 61) (hd0 : 0 ≤ d) (hd1 : d < 4)
    (ct : wr.cell? ⟨tg, i, none⟩ = some (.int .u8 d)) (cw : wr.cell? ⟨g3, (i + 1) * 4 + d.toNat, none⟩ = some (.int .u64 (v : Nat)))
    (p0 : wr.cell? ⟨pg, po + (4 + i) * 5, none⟩ = some (.int .u8 183)) (p1 : wr.cell? ⟨pg, po + (4 + i) * 5 + 1, none⟩ = some (.int .u8 pd)) (p2 : wr.cell? ⟨pg, po + (4 + i) * 5 + 2, none⟩ = some (.int .u8 ps)) (p3 : wr.cell? ⟨pg, po + (4 + i) * 5 + 3, none⟩ = some (.int .i16 pf)) (p4 : wr.cell? ⟨pg, po + (4 + i) * 5 + 4, none⟩ = some (.int .i32 pi))
    (q0 : wr.cell? ⟨fg, fo + (4 + i) * 5, none⟩ = some (.int .u8 183)) (q1 : wr.cell? ⟨fg, fo + (4 + i) * 5 + 1, none⟩ = some (.int .u8 pd)) (q2 : wr.cell? ⟨fg, fo + (4 + i) * 5 + 2, none⟩ = some (.int .u8 ps)) (q3 : wr.cell? ⟨fg, fo + (4 + i) * 5 + 3, none⟩ = some (.int .i16 pf)) (q4 : wr.cell? ⟨fg, fo + (4 + i) * 5 + 4, none⟩ = some (.int .i32 pi))
    (e23 : (IntKind.u64.wrap (wrap64 (wrap32 ((v : Int) % 4294967296))) == (v : Int)) = false)
    (c0 c1 c2 c3 c4 c6 c7 c10 c11 c12 c13 c14 c15 c16 c17 c19 c21 c22 c23 c24 c25 c26 c27 c28 c29 c30 c31 c32 c33 c34 c35 c36 c37 c38 c39 c40 c41 c42 c43 c44 c45 c46 c47 c48 c49 c50 c51 c52 c53 c54 c55 c56 c57 c58 c59 c60 c61 c62 c63 c64 c65 c66 c67 c68 c69 c70 c71 c72 c73 c74 c75 c76 c77 c78 c79 c80 c81 c82 c83 c84 c85 c86 c87 c88 c89 c90 c91 c92 c93 c94 c95 c96 c97 c98 c99 c100 c101 c102 c103 c104 c105 c106 c107 c108 c109 c110 c111 c112 c113 c114 c115 c116 c117 c118 c119 c120 c121 c122 c123 c124 c125 c126 c127 c128 c129 c130 c131 c132 c133 c134 c135 c136 c137 c138 c139 c140 c141 c142 c143 c144 c145 c146 c147 c148 c149 c150 c151 c152 c153 c154 c155 c156 c157 c158 c159 c160 c161 c162 c163 c164 c165 c166 c167 c168 c169 c170 c171 c172 c173 c174 c175 c176 c177 c178 c179 c180 c181 c182 c183 c184 c185 c186 c187 c188 c189 c190 c191 c192 c193 c194 c195 c196 c197 c198 c199 c200 c201 c202 c203 c204 c205 c206 c207 c208 c209 c210 c211 c212 c213 c214 c215 c216 c217 c218 c219 c220 c221 c222 c223 c224 c225 c226 c227 c228 c229 c230 c231 c232 c233 c234 c235 c236 c237 c238 c239 c240 c241 c242 c243 c244 c245 c246 c247 c248 c249 c250 c251 c252 c253 c254 c255 c256 c257 c258 c259 c260 c261 c262 c263 c264 c265 c266 c267 c268 c269 c270 c271 c272 c273 c274 c275 c276 c277 c278 c279 c280 : Value) (K : Act → World → Prop) (Q0 : Exit → Act → World → Prop) (hK : ∀ a w, Code.wp Tryz.prog cond45 Q0 a w → K a w)
    (HE : Hid (∀ (u22 u23 u24 u200 u201 u202 u203 u204 u205 u206 u207 u208 u209 u210 u211 u212 u213 u214 u215 u216 u217 u218 u219 u220 u221 u222 u223 u224 u225 u226 u227 u228 u229 u230 u231 u232 u233 u234 u235 u236 u237 u238 u239 u240 u241 u242 u243 u244 u245 u246 u247 u248 u249 u250 u251 u252 u253 u254 u255 u256 u257 u258 u259 u260 u261 u262 u263 u264 u265 u266 u267 u268 u269 u270 u271 u272 u273 u274 u275 u276 u277 u278 u279 u280 : Value) (wr' : World), Kept (fun _ => False) wr wr' → Q0 .normal ⟨List.toArray (c0 :: c1 :: c2 :: c3 :: c4 :: .slice (some ⟨pg, po, none⟩) N cp :: c6 :: c7 :: .slice (some ⟨g3, 0, none⟩) (M + 1) cap3 :: .slice (some ⟨tg, 0, none⟩) M tc :: c10 :: c11 :: c12 :: c13 :: c14 :: c15 :: c16 :: c17 :: .slice (some ⟨fg, fo, none⟩) N fc :: c19 :: .int .i64 i :: c21 :: u22 :: u23 :: u24 :: c25 :: c26 :: c27 :: c28 :: c29 :: c30 :: c31 :: c32 :: c33 :: c34 :: c35 :: c36 :: c37 :: c38 :: c39 :: c40 :: c41 :: c42 :: c43 :: c44 :: c45 :: c46 :: c47 :: c48 :: c49 :: c50 :: c51 :: c52 :: c53 :: c54 :: c55 :: c56 :: c57 :: c58 :: c59 :: c60 :: c61 :: c62 :: c63 :: c64 :: c65 :: c66 :: c67 :: c68 :: c69 :: c70 :: c71 :: c72 :: c73 :: c74 :: c75 :: c76 :: c77 :: c78 :: c79 :: c80 :: c81 :: c82 :: c83 :: c84 :: c85 :: c86 :: c87 :: c88 :: c89 :: c90 :: c91 :: c92 :: c93 :: c94 :: c95 :: c96 :: c97 :: c98 :: c99 :: c100 :: c101 :: c102 :: c103 :: c104 :: c105 :: c106 :: c107 :: c108 :: c109 :: c110 :: c111 :: c112 :: c113 :: c114 :: c115 :: c116 :: c117 :: c118 :: c119 :: c120 :: c121 :: c122 :: c123 :: c124 :: c125 :: c126 :: c127 :: c128 :: c129 :: c130 :: c131 :: c132 :: c133 :: c134 :: c135 :: c136 :: c137 :: c138 :: c139 :: c140 :: c141 :: c142 :: c143 :: c144 :: c145 :: c146 :: c147 :: c148 :: c149 :: c150 :: c151 :: c152 :: c153 :: c154 :: c155 :: c156 :: c157 :: c158 :: c159 :: c160 :: c161 :: c162 :: c163 :: c164 :: c165 :: c166 :: c167 :: c168 :: c169 :: c170 :: c171 :: c172 :: c173 :: c174 :: c175 :: c176 :: c177 :: c178 :: c179 :: c180 :: c181 :: c182 :: c183 :: c184 :: c185 :: c186 :: c187 :: c188 :: c189 :: c190 :: c191 :: c192 :: c193 :: c194 :: c195 :: c196 :: c197 :: c198 :: c199 :: u200 :: u201 :: u202 :: u203 :: u204 :: u205 :: u206 :: u207 :: u208 :: u209 :: u210 :: u211 :: u212 :: u213 :: u214 :: u215 :: u216 :: u217 :: u218 :: u219 :: u220 :: u221 :: u222 :: u223 :: u224 :: u225 :: u226 :: u227 :: u228 :: u229 :: u230 :: u231 :: u232 :: u233 :: u234 :: u235 :: u236 :: u237 :: u238 :: u239 :: u240 :: u241 :: u242 :: u243 :: u244 :: u245 :: u246 :: u247 :: u248 :: u249 :: u250 :: u251 :: u252 :: u253 :: u254 :: u255 :: u256 :: u257 :: u258 :: u259 :: u260 :: u261 :: u262 :: u263 :: u264 :: u265 :: u266 :: u267 :: u268 :: u269 :: u270 :: u271 :: u272 :: u273 :: u274 :: u275 :: u276 :: u277 :: u278 :: u279 :: u280 :: []), []⟩ wr')) :
    Code.wp Tryz.prog reg45 (Exit.then K Q0) ⟨List.toArray (c0 :: c1 :: c2 :: c3 :: c4 :: .slice (some ⟨pg, po, none⟩) N cp :: c6 :: c7 :: .slice (some ⟨g3, 0, none⟩) (M + 1) cap3 :: .slice (some ⟨tg, 0, none⟩) M tc :: c10 :: c11 :: c12 :: c13 :: c14 :: c15 :: c16 :: c17 :: .slice (some ⟨fg, fo, none⟩) N fc :: c19 :: .int .i64 i :: c21 :: c22 :: c23 :: c24 :: c25 :: c26 :: c27 :: c28 :: c29 :: c30 :: c31 :: c32 :: c33 :: c34 :: c35 :: c36 :: c37 :: c38 :: c39 :: c40 :: c41 :: c42 :: c43 :: c44 :: c45 :: c46 :: c47 :: c48 :: c49 :: c50 :: c51 :: c52 :: c53 :: c54 :: c55 :: c56 :: c57 :: c58 :: c59 :: c60 :: c61 :: c62 :: c63 :: c64 :: c65 :: c66 :: c67 :: c68 :: c69 :: c70 :: c71 :: c72 :: c73 :: c74 :: c75 :: c76 :: c77 :: c78 :: c79 :: c80 :: c81 :: c82 :: c83 :: c84 :: c85 :: c86 :: c87 :: c88 :: c89 :: c90 :: c91 :: c92 :: c93 :: c94 :: c95 :: c96 :: c97 :: c98 :: c99 :: c100 :: c101 :: c102 :: c103 :: c104 :: c105 :: c106 :: c107 :: c108 :: c109 :: c110 :: c111 :: c112 :: c113 :: c114 :: c115 :: c116 :: c117 :: c118 :: c119 :: c120 :: c121 :: c122 :: c123 :: c124 :: c125 :: c126 :: c127 :: c128 :: c129 :: c130 :: c131 :: c132 :: c133 :: c134 :: c135 :: c136 :: c137 :: c138 :: c139 :: c140 :: c141 :: c142 :: c143 :: c144 :: c145 :: c146 :: c147 :: c148 :: c149 :: c150 :: c151 :: c152 :: c153 :: c154 :: c155 :: c156 :: c157 :: c158 :: c159 :: c160 :: c161 :: c162 :: c163 :: c164 :: c165 :: c166 :: c167 :: c168 :: c169 :: c170 :: c171 :: c172 :: c173 :: c174 :: c175 :: c176 :: c177 :: c178 :: c179 :: c180 :: c181 :: c182 :: c183 :: c184 :: c185 :: c186 :: c187 :: c188 :: c189 :: c190 :: c191 :: c192 :: c193 :: c194 :: c195 :: c196 :: c197 :: c198 :: c199 :: c200 :: c201 :: c202 :: c203 :: c204 :: c205 :: c206 :: c207 :: c208 :: c209 :: c210 :: c211 :: c212 :: c213 :: c214 :: c215 :: c216 :: c217 :: c218 :: c219 :: c220 :: c221 :: c222 :: c223 :: c224 :: c225 :: c226 :: c227 :: c228 :: c229 :: c230 :: c231 :: c232 :: c233 :: c234 :: c235 :: c236 :: c237 :: c238 :: c239 :: c240 :: c241 :: c242 :: c243 :: c244 :: c245 :: c246 :: c247 :: c248 :: c249 :: c250 :: c251 :: c252 :: c253 :: c254 :: c255 :: c256 :: c257 :: c258 :: c259 :: c260 :: c261 :: c262 :: c263 :: c264 :: c265 :: c266 :: c267 :: c268 :: c269 :: c270 :: c271 :: c272 :: c273 :: c274 :: c275 :: c276 :: c277 :: c278 :: c279 :: c280 :: []), []⟩ wr := by
  conv => arg 2; whnf
  conv at hK => enter [a, w, 1, 2]; whnf
  go_upto_region 46 with fail
  refine wp_region_mix0 [.w, .w, .w, .w, .w, .w, .l, .w, .w, .l, .t] (by kernel_rfl) (by kernel_rfl) ?_
  repeat (first
    | (refine mix_w1 ?_; go_big_quiet_step (fail); refine wpQuiet_nil ?_)
    | (refine mix_l1 rfl ?_; go_big_quiet_step (fail); refine wpQuiet_nil ?_)
    | (refine mix_t fun Q' hQ' => ?_; go_wp2_with fail))
  first
    | refine mix_done ?_
    | refine mix_nil ?_
  clear cw
  go_upto_region 49 with fail
  skip
  refine wp_region_mix0 [.w, .w, .w, .w, .w, .w, .w, .w, .w, .w, .l, .w, .w, .w, .l, .w, .w, .w, .w, .w, .l, .w, .w, .w, .w, .w, .w, .w, .w, .w, .w, .w, .w, .l, .w, .w, .w, .w, .l, .l, .w, .w] (by kernel_rfl) (by kernel_rfl) ?_
  repeat (first
    | (refine mix_w1 ?_; go_big_quiet_step (fail); refine wpQuiet_nil ?_)
    | (refine mix_l1 rfl ?_; go_big_quiet_step (fail); refine wpQuiet_nil ?_))
  first
    | refine mix_done ?_
    | refine mix_nil ?_
  go_wp2_with fail
  exact HE.out _ _ _ _ _ _ _ _ _ _ _ _ _ _ _ _ _ _ _ _ _ _ _ _ _ _ _ _ _ _ _ _ _ _ _ _ _ _ _ _ _ _ _ _ _ _ _ _ _ _ _ _ _ _ _ _ _ _ _ _ _ _ _ _ _ _ _ _ _ _ _ _ _ _ _ _ _ _ _ _ _ _ _ _ _ ((Kept.refl _ wr).drew.drew)

end Go.Proofs.YtdchmelgaljpfaaGreat

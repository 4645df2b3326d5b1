import Derived.Test.YtdchmelgaljpfaaGreatFj
import Derived.Test.YtdchmelgaljpfaaGreatFk
set_option linter.unusedSimpArgs false
set_option linter.unusedVariables false
namespace Go.Proofs.YtdchmelgaljpfaaGreat
open Go.RowKit

/-! ### FoldStraight: the comparing loop -/
set_option maxHeartbeats 8000000 in
set_option maxRecDepth 1000000 in
theorem fs_loop (f0 f1 f2 f3 : Int) (ops pl : List In) (V2 : List (Option KR)) (A : Option Addr) (cp g3 cap3 : Nat) (TA : Option Addr) (tc kg kc : Nat) (FA : Option Addr) (fc : Nat) (w5 : World)
    (HST : Hid (∀ (V : List (Option KR)), KIs pl V → ∀ (j : Nat), j ≤ ops.length → V[4 + j]? = some (some (rowS (regsN [f0, f1, f2, f3] ops j)))))
    (HSF : Hid (∀ (V : List (Option KR)), KIs pl V → ∀ (j : Nat) (x : In), ops[j]? = some x → (foldL pl V)[4 + j]? = some (if x.op = 183 ∨ x.op = 180 then sIn x else if signN (lowI (sVal x (regsN [f0, f1, f2, f3] ops j))) = sVal x (regsN [f0, f1, f2, f3] ops j) then ⟨183, x.dst % 4, 0, 0, lowI (sVal x (regsN [f0, f1, f2, f3] ops j))⟩ else sIn x)))
    (HSO : Hid (∀ (j : Nat) (x : In), ops[j]? = some x → pl[4 + j]? = some (sIn x)))
    (HPL : Hid (pl.length = ops.length + 5)) (hol1 : ops.length + 1 ≤ 61) (HVI : Hid (KIs pl V2))
    (HF5 : Hid (Ins w5 (.slice FA pl.length fc) (foldL pl V2))) (HV5 : Hid (Sl w5 33 44 (.slice (some ⟨kg, 0, none⟩) pl.length kc) (V2.map vrow)))
    (HW5 : Hid (Sl w5 72 4 (.slice (some ⟨g3, 0, none⟩) (ops.length + 1) cap3) (wantA [f0, f1, f2, f3] ops))) (HT5 : Hid (Sl w5 5 1 (.slice TA ops.length tc) (ops.map fun x => [Value.int .u8 (x.dst % 4)])))
    (HP5 : Hid (Ins w5 (.slice A pl.length cp) pl))
    (c0 c1 c2 c3 c4 c6 c7 c10 c11 c12 c13 c14 c15 c17 c19 c21 c22 c23 c24 c25 c26 c27 c28 c29 c30 c31 c32 c33 c34 c35 c36 c37 c38 c39 c40 c41 c42 c43 c44 c45 c46 c47 c48 c49 c50 c51 c52 c53 c54 c55 c56 c57 c58 c59 c60 c61 c62 c63 c64 c65 c66 c67 c68 c69 c70 c71 c72 c73 c74 c75 c76 c77 c78 c79 c80 c81 c82 c83 c84 c85 c86 c87 c88 c89 c90 c91 c92 c93 c94 c95 c96 c97 c98 c99 c100 c101 c102 c103 c104 c105 c106 c107 c108 c109 c110 c111 c112 c113 c114 c115 c116 c117 c118 c119 c120 c121 c122 c123 c124 c125 c126 c127 c128 c129 c130 c131 c132 c133 c134 c135 c136 c137 c138 c139 c140 c141 c142 c143 c144 c145 c146 c147 c148 c149 c150 c151 c152 c153 c154 c155 c156 c157 c158 c159 c160 c161 c162 c163 c164 c165 c166 c167 c168 c169 c170 c171 c172 c173 c174 c175 c176 c177 c178 c179 c180 c181 c182 c183 c184 c185 c186 c187 c188 c189 c190 c191 c192 c193 c194 c195 c196 c197 c198 c199 c200 c201 c202 c203 c204 c205 c206 c207 c208 c209 c210 c211 c212 c213 c214 c215 c216 c217 c218 c219 c220 c221 c222 c223 c224 c225 c226 c227 c228 c229 c230 c231 c232 c233 c234 c235 c236 c237 c238 c239 c240 c241 c242 c243 c244 c245 c246 c247 c248 c249 c250 c251 c252 c253 c254 c255 c256 c257 c258 c259 c260 c261 c262 c263 c264 c265 c266 c267 c268 c269 c270 c271 c272 c273 c274 c275 c276 c277 c278 c279 c280 : Value) (Q0 : Exit → Act → World → Prop)
    (HX : Hid (∀ (u4 u20 u21 u22 u23 u24 u175 u176 u177 u178 u179 u180 u181 u182 u183 u184 u185 u186 u187 u188 u189 u190 u191 u192 u193 u194 u195 u196 u197 u198 u199 u200 u201 u202 u203 u204 u205 u206 u207 u208 u209 u210 u211 u212 u213 u214 u215 u216 u217 u218 u219 u220 u221 u222 u223 u224 u225 u226 u227 u228 u229 u230 u231 u232 u233 u234 u235 u236 u237 u238 u239 u240 u241 u242 u243 u244 u245 u246 u247 u248 u249 u250 u251 u252 u253 u254 u255 u256 u257 u258 u259 u260 u261 u262 u263 u264 u265 u266 u267 u268 u269 u270 u271 u272 u273 u274 u275 u276 u277 u278 u279 u280 : Value) (wr : World), Kept (fun _ => False) w5 wr → Q0 (.exit 4) ⟨List.toArray (c0 :: c1 :: c2 :: c3 :: u4 :: .slice A pl.length cp :: c6 :: c7 :: .slice (some ⟨g3, 0, none⟩) (ops.length + 1) cap3 :: .slice TA ops.length tc :: c10 :: c11 :: c12 :: c13 :: c14 :: c15 :: .slice (some ⟨kg, 0, none⟩) pl.length kc :: c17 :: .slice FA pl.length fc :: c19 :: u20 :: u21 :: u22 :: u23 :: u24 :: c25 :: c26 :: c27 :: c28 :: c29 :: c30 :: c31 :: c32 :: c33 :: c34 :: c35 :: c36 :: c37 :: c38 :: c39 :: c40 :: c41 :: c42 :: c43 :: c44 :: c45 :: c46 :: c47 :: c48 :: c49 :: c50 :: c51 :: c52 :: c53 :: c54 :: c55 :: c56 :: c57 :: c58 :: c59 :: c60 :: c61 :: c62 :: c63 :: c64 :: c65 :: c66 :: c67 :: c68 :: c69 :: c70 :: c71 :: c72 :: c73 :: c74 :: c75 :: c76 :: c77 :: c78 :: c79 :: c80 :: c81 :: c82 :: c83 :: c84 :: c85 :: c86 :: c87 :: c88 :: c89 :: c90 :: c91 :: c92 :: c93 :: c94 :: c95 :: c96 :: c97 :: c98 :: c99 :: c100 :: c101 :: c102 :: c103 :: c104 :: c105 :: c106 :: c107 :: c108 :: c109 :: c110 :: c111 :: c112 :: c113 :: c114 :: c115 :: c116 :: c117 :: c118 :: c119 :: c120 :: c121 :: c122 :: c123 :: c124 :: c125 :: c126 :: c127 :: c128 :: c129 :: c130 :: c131 :: c132 :: c133 :: c134 :: c135 :: c136 :: c137 :: c138 :: c139 :: c140 :: c141 :: c142 :: c143 :: c144 :: c145 :: c146 :: c147 :: c148 :: c149 :: c150 :: c151 :: c152 :: c153 :: c154 :: c155 :: c156 :: c157 :: c158 :: c159 :: c160 :: c161 :: c162 :: c163 :: c164 :: c165 :: c166 :: c167 :: c168 :: c169 :: c170 :: c171 :: c172 :: c173 :: c174 :: u175 :: u176 :: u177 :: u178 :: u179 :: u180 :: u181 :: u182 :: u183 :: u184 :: u185 :: u186 :: u187 :: u188 :: u189 :: u190 :: u191 :: u192 :: u193 :: u194 :: u195 :: u196 :: u197 :: u198 :: u199 :: u200 :: u201 :: u202 :: u203 :: u204 :: u205 :: u206 :: u207 :: u208 :: u209 :: u210 :: u211 :: u212 :: u213 :: u214 :: u215 :: u216 :: u217 :: u218 :: u219 :: u220 :: u221 :: u222 :: u223 :: u224 :: u225 :: u226 :: u227 :: u228 :: u229 :: u230 :: u231 :: u232 :: u233 :: u234 :: u235 :: u236 :: u237 :: u238 :: u239 :: u240 :: u241 :: u242 :: u243 :: u244 :: u245 :: u246 :: u247 :: u248 :: u249 :: u250 :: u251 :: u252 :: u253 :: u254 :: u255 :: u256 :: u257 :: u258 :: u259 :: u260 :: u261 :: u262 :: u263 :: u264 :: u265 :: u266 :: u267 :: u268 :: u269 :: u270 :: u271 :: u272 :: u273 :: u274 :: u275 :: u276 :: u277 :: u278 :: u279 :: u280 :: []), []⟩ wr)) :
    Code.wp Tryz.prog (Code.loop body20) Q0 ⟨List.toArray (c0 :: c1 :: c2 :: c3 :: c4 :: .slice A pl.length cp :: c6 :: c7 :: .slice (some ⟨g3, 0, none⟩) (ops.length + 1) cap3 :: .slice TA ops.length tc :: c10 :: c11 :: c12 :: c13 :: c14 :: c15 :: .slice (some ⟨kg, 0, none⟩) pl.length kc :: c17 :: .slice FA pl.length fc :: c19 :: .int .i64 0 :: c21 :: c22 :: c23 :: c24 :: c25 :: c26 :: c27 :: c28 :: c29 :: c30 :: c31 :: c32 :: c33 :: c34 :: c35 :: c36 :: c37 :: c38 :: c39 :: c40 :: c41 :: c42 :: c43 :: c44 :: c45 :: c46 :: c47 :: c48 :: c49 :: c50 :: c51 :: c52 :: c53 :: c54 :: c55 :: c56 :: c57 :: c58 :: c59 :: c60 :: c61 :: c62 :: c63 :: c64 :: c65 :: c66 :: c67 :: c68 :: c69 :: c70 :: c71 :: c72 :: c73 :: c74 :: c75 :: c76 :: c77 :: c78 :: c79 :: c80 :: c81 :: c82 :: c83 :: c84 :: c85 :: c86 :: c87 :: c88 :: c89 :: c90 :: c91 :: c92 :: c93 :: c94 :: c95 :: c96 :: c97 :: c98 :: c99 :: c100 :: c101 :: c102 :: c103 :: c104 :: c105 :: c106 :: c107 :: c108 :: c109 :: c110 :: c111 :: c112 :: c113 :: c114 :: c115 :: c116 :: c117 :: c118 :: c119 :: c120 :: c121 :: c122 :: c123 :: c124 :: c125 :: c126 :: c127 :: c128 :: c129 :: c130 :: c131 :: c132 :: c133 :: c134 :: c135 :: c136 :: c137 :: c138 :: c139 :: c140 :: c141 :: c142 :: c143 :: c144 :: c145 :: c146 :: c147 :: c148 :: c149 :: c150 :: c151 :: c152 :: c153 :: c154 :: c155 :: c156 :: c157 :: c158 :: c159 :: c160 :: c161 :: c162 :: c163 :: c164 :: c165 :: c166 :: c167 :: c168 :: c169 :: c170 :: c171 :: c172 :: c173 :: c174 :: c175 :: c176 :: c177 :: c178 :: c179 :: c180 :: c181 :: c182 :: c183 :: c184 :: c185 :: c186 :: c187 :: c188 :: c189 :: c190 :: c191 :: c192 :: c193 :: c194 :: c195 :: c196 :: c197 :: c198 :: c199 :: c200 :: c201 :: c202 :: c203 :: c204 :: c205 :: c206 :: c207 :: c208 :: c209 :: c210 :: c211 :: c212 :: c213 :: c214 :: c215 :: c216 :: c217 :: c218 :: c219 :: c220 :: c221 :: c222 :: c223 :: c224 :: c225 :: c226 :: c227 :: c228 :: c229 :: c230 :: c231 :: c232 :: c233 :: c234 :: c235 :: c236 :: c237 :: c238 :: c239 :: c240 :: c241 :: c242 :: c243 :: c244 :: c245 :: c246 :: c247 :: c248 :: c249 :: c250 :: c251 :: c252 :: c253 :: c254 :: c255 :: c256 :: c257 :: c258 :: c259 :: c260 :: c261 :: c262 :: c263 :: c264 :: c265 :: c266 :: c267 :: c268 :: c269 :: c270 :: c271 :: c272 :: c273 :: c274 :: c275 :: c276 :: c277 :: c278 :: c279 :: c280 :: []), []⟩ w5 := by
  conv => arg 2; arg 1; whnf
  go_loopw [20] (fun iv wr => ∃ i : Nat, iv = .int .i64 i ∧ i ≤ ops.length + 1 ∧ Kept (fun _ => False) w5 wr) (fun iv _ => ops.length + 1 - (intOf iv).toNat)
  case atStart => exact ⟨0, rfl, Nat.zero_le _, Kept.refl _ _⟩
  case round =>
    obtain ⟨i, rfl, hi, hki⟩ := hrel
    have HKI := Lib.hid hki
    clear hki
    by_cases hio : i < ops.length + 1
    case neg =>
      obtain rfl : i = ops.length + 1 := by omega
      clear hi hio
      go_wp2_with fail
      exact HX.out _ _ _ _ _ _ _ _ _ _ _ _ _ _ _ _ _ _ _ _ _ _ _ _ _ _ _ _ _ _ _ _ _ _ _ _ _ _ _ _ _ _ _ _ _ _ _ _ _ _ _ _ _ _ _ _ _ _ _ _ _ _ _ _ _ _ _ _ _ _ _ _ _ _ _ _ _ _ _ _ _ _ _ _ _ _ _ _ _ _ _ _ _ _ _ _ _ _ _ _ _ _ _ _ _ _ _ _ _ _ _ _ _ HKI.out
    case pos =>
      have hip : 4 + i < pl.length := by rw [HPL.out]; omega
      go_wp2_with fail
      go_loopw [21] (fun nv wi => ∃ n : Nat, nv = .int .i64 n ∧ n ≤ 4 ∧ Kept (fun _ => False) wr wi) (fun nv _ => 4 - (intOf nv).toNat)
      case atStart => exact ⟨0, rfl, by omega, Kept.refl _ _⟩
      case round =>
        obtain ⟨n, rfl, hn, hkn⟩ := hrel
        by_cases hn4 : n < 4
        case neg =>
          obtain rfl : n = 4 := by omega
          have HKN := Lib.hid (HKI.out.trans hkn (fun _ _ e => e))
          clear hkn hn hn4 HKI
          have e4 : ((4 : Nat) : Int) = 4 := rfl
          rw [e4]
          clear e4
          by_cases hio2 : i < ops.length
          case neg =>
            obtain rfl : i = ops.length := by omega
            clear hio2
            go_wp2_with fail
            refine ⟨⟨ops.length + 1, by simp, Nat.le_refl _, HKN.out⟩, ?_⟩
            show ops.length + 1 - ((ops.length : Int) + 1).toNat < ops.length + 1 - ((ops.length : Int)).toNat
            omega
          case pos =>
            obtain ⟨x, hx⟩ : ∃ x, ops[i]? = some x := ⟨_, List.getElem?_eq_getElem hio2⟩
            have hT := Sl.kept HKN.out HT5.out (fun _ _ e => e)
            obtain ⟨tg, tc2, htv, -, -⟩ := Sl.some_ hT (by rw [List.length_map]; omega)
            injection htv with htv1 htv2 htv3
            subst htv1
            clear htv2 htv3
            have ct : wr.cell? ⟨tg, i, none⟩ = some (.int .u8 (x.dst % 4)) := by
              have h1 := Sl.cell hT (i := i) (c := [.int .u8 (x.dst % 4)]) (by rw [List.getElem?_map, hx]; rfl) (k := 0) (by omega)
              rw [Nat.mul_one, Nat.add_zero] at h1
              exact h1
            obtain ⟨pg, po, rfl, hpg, p0, p1, p2, p3, p4⟩ := (HP5.out.kept HKN.out).at_ (HSO.out i x hx)
            obtain ⟨fg, fo, rfl, hfg, q0, q1, q2, q3, q4⟩ := (HF5.out.kept HKN.out).at_ (HSF.out V2 HVI.out i x hx)
            have hvn := regs_next (f := [f0, f1, f2, f3]) rfl hx
            have hrl := regsN_len (f := [f0, f1, f2, f3]) rfl ops (i + 1)
            have cw : wr.cell? ⟨g3, (i + 1) * 4 + (x.dst % 4).toNat, none⟩ = some (.int .u64 ((sVal x (regsN [f0, f1, f2, f3] ops i) : Nat) : Int)) := by
              rw [Sl.cell (Sl.kept HKN.out HW5.out (fun _ _ e => e)) (wantA_get _ _ (by omega)) (by omega)]
              unfold ucells
              rw [List.getElem?_map, List.getElem?_eq_getElem (by omega)]
              rw [List.getD_eq_getElem?_getD, List.getElem?_eq_getElem (by omega)] at hvn
              rw [← hvn]
              rfl
            have HX := Lib.hid hx
            generalize sVal x (regsN [f0, f1, f2, f3] ops i) = v at *
            clear hx hT hvn hrl
            have p0 : wr.cell? ⟨pg, po + (4 + i) * 5, none⟩ = some (.int .u8 x.op) := p0
            have hsm : (IntKind.u64.wrap (wrap64 (wrap32 ((v : Int) % 4294967296))) == (v : Int)) = decide (signN (lowI v) = v) := small_eq v
            have HP := Lib.hid (And.intro p0 (And.intro p1 (And.intro p2 (And.intro p3 p4))))
            clear p0 p1 p2 p3 p4
            go_upto_region 45 with fail
            rcases (by omega : x.op = 183 ∨ x.op = 180 ∨ (¬ x.op = 183 ∧ ¬ x.op = 180)) with hm | hm | ⟨hm, hm2⟩
            · rw [if_pos (.inl hm)] at q0 q1 q2 q3 q4
              rcases Decidable.em (signN (lowI v) = v) with hs | hs
              · refine fs_tA i pl.length ops.length cp g3 cap3 tg tc pg po fg fo fc x.op (sIn x).dst (sIn x).src (sIn x).off (sIn x).imm (x.dst % 4) v wr hip hio2 hol1 (by omega) (by omega) ct cw (by rw [← hm]; exact HP.out.1) HP.out.2.1 HP.out.2.2.1 HP.out.2.2.2.1 HP.out.2.2.2.2 (by rw [← hm]; exact q0) q1 q2 q3 q4 (hsm.trans (decide_eq_true hs)) _ _ _ _ _ _ _ _ _ _ _ _ _ _ _ _ _ _ _ _ _ _ _ _ _ _ _ _ _ _ _ _ _ _ _ _ _ _ _ _ _ _ _ _ _ _ _ _ _ _ _ _ _ _ _ _ _ _ _ _ _ _ _ _ _ _ _ _ _ _ _ _ _ _ _ _ _ _ _ _ _ _ _ _ _ _ _ _ _ _ _ _ _ _ _ _ _ _ _ _ _ _ _ _ _ _ _ _ _ _ _ _ _ _ _ _ _ _ _ _ _ _ _ _ _ _ _ _ _ _ _ _ _ _ _ _ _ _ _ _ _ _ _ _ _ _ _ _ _ _ _ _ _ _ _ _ _ _ _ _ _ _ _ _ _ _ _ _ _ _ _ _ _ _ _ _ _ _ _ _ _ _ _ _ _ _ _ _ _ _ _ _ _ _ _ _ _ _ _ _ _ _ _ _ _ _ _ _ _ _ _ _ _ _ _ _ _ _ _ _ _ _ _ _ _ _ _ _ _ _ _ _ _ _ _ _ _ _ _ _ _ _ _ _ _ _ _ _ _ _ _ _ _ _ _ _ _ _ _ _ _ _ _ _ _ _ _ _ _ _ _ _ _ _ _ _ _ _ (by assumption) ?_
                refine Lib.hid ?_
                intro _ _ _ _ _ _ _ _ _ _ _ _ _ _ _ _ _ _ _ _ _ _ _ _ _ _ _ _ _ _ _ _ _ _ _ _ _ _ _ _ _ _ _ _ _ _ _ _ _ _ _ _ _ _ _ _ _ _ _ _ _ _ _ _ _ _ _ _ _ _ _ _ _ _ _ _ _ _ _ _ _ _ _ _ wr7 hk7
                go_wp2_with fail
                refine ⟨⟨i + 1, by simp, by omega, HKN.out.trans hk7 (fun _ _ e => e)⟩, ?_⟩
                show ops.length + 1 - ((i : Int) + 1).toNat < ops.length + 1 - ((i : Int)).toNat
                omega
              · refine fs_tB i pl.length ops.length cp g3 cap3 tg tc pg po fg fo fc x.op (sIn x).dst (sIn x).src (sIn x).off (sIn x).imm (x.dst % 4) v wr hip hio2 hol1 (by omega) (by omega) ct cw (by rw [← hm]; exact HP.out.1) HP.out.2.1 HP.out.2.2.1 HP.out.2.2.2.1 HP.out.2.2.2.2 (by rw [← hm]; exact q0) q1 q2 q3 q4 (hsm.trans (decide_eq_false hs)) _ _ _ _ _ _ _ _ _ _ _ _ _ _ _ _ _ _ _ _ _ _ _ _ _ _ _ _ _ _ _ _ _ _ _ _ _ _ _ _ _ _ _ _ _ _ _ _ _ _ _ _ _ _ _ _ _ _ _ _ _ _ _ _ _ _ _ _ _ _ _ _ _ _ _ _ _ _ _ _ _ _ _ _ _ _ _ _ _ _ _ _ _ _ _ _ _ _ _ _ _ _ _ _ _ _ _ _ _ _ _ _ _ _ _ _ _ _ _ _ _ _ _ _ _ _ _ _ _ _ _ _ _ _ _ _ _ _ _ _ _ _ _ _ _ _ _ _ _ _ _ _ _ _ _ _ _ _ _ _ _ _ _ _ _ _ _ _ _ _ _ _ _ _ _ _ _ _ _ _ _ _ _ _ _ _ _ _ _ _ _ _ _ _ _ _ _ _ _ _ _ _ _ _ _ _ _ _ _ _ _ _ _ _ _ _ _ _ _ _ _ _ _ _ _ _ _ _ _ _ _ _ _ _ _ _ _ _ _ _ _ _ _ _ _ _ _ _ _ _ _ _ _ _ _ _ _ _ _ _ _ _ _ _ _ _ _ _ _ _ _ _ _ _ _ _ _ _ (by assumption) ?_
                refine Lib.hid ?_
                intro _ _ _ _ _ _ _ _ _ _ _ _ _ _ _ _ _ _ _ _ _ _ _ _ _ _ _ _ _ _ _ _ _ _ _ _ _ _ _ _ _ _ _ _ _ _ _ _ _ _ _ _ _ _ _ _ _ _ _ _ _ _ _ _ _ _ _ _ _ _ _ _ _ _ _ _ _ _ _ _ _ _ _ _ wr7 hk7
                go_wp2_with fail
                refine ⟨⟨i + 1, by simp, by omega, HKN.out.trans hk7 (fun _ _ e => e)⟩, ?_⟩
                show ops.length + 1 - ((i : Int) + 1).toNat < ops.length + 1 - ((i : Int)).toNat
                omega
            · rw [if_pos (.inr hm)] at q0 q1 q2 q3 q4
              rcases Decidable.em (signN (lowI v) = v) with hs | hs
              · refine fs_tC i pl.length ops.length cp g3 cap3 tg tc pg po fg fo fc x.op (sIn x).dst (sIn x).src (sIn x).off (sIn x).imm (x.dst % 4) v wr hip hio2 hol1 (by omega) (by omega) ct cw (by rw [← hm]; exact HP.out.1) HP.out.2.1 HP.out.2.2.1 HP.out.2.2.2.1 HP.out.2.2.2.2 (by rw [← hm]; exact q0) q1 q2 q3 q4 (hsm.trans (decide_eq_true hs)) _ _ _ _ _ _ _ _ _ _ _ _ _ _ _ _ _ _ _ _ _ _ _ _ _ _ _ _ _ _ _ _ _ _ _ _ _ _ _ _ _ _ _ _ _ _ _ _ _ _ _ _ _ _ _ _ _ _ _ _ _ _ _ _ _ _ _ _ _ _ _ _ _ _ _ _ _ _ _ _ _ _ _ _ _ _ _ _ _ _ _ _ _ _ _ _ _ _ _ _ _ _ _ _ _ _ _ _ _ _ _ _ _ _ _ _ _ _ _ _ _ _ _ _ _ _ _ _ _ _ _ _ _ _ _ _ _ _ _ _ _ _ _ _ _ _ _ _ _ _ _ _ _ _ _ _ _ _ _ _ _ _ _ _ _ _ _ _ _ _ _ _ _ _ _ _ _ _ _ _ _ _ _ _ _ _ _ _ _ _ _ _ _ _ _ _ _ _ _ _ _ _ _ _ _ _ _ _ _ _ _ _ _ _ _ _ _ _ _ _ _ _ _ _ _ _ _ _ _ _ _ _ _ _ _ _ _ _ _ _ _ _ _ _ _ _ _ _ _ _ _ _ _ _ _ _ _ _ _ _ _ _ _ _ _ _ _ _ _ _ _ _ _ _ _ _ _ _ (by assumption) ?_
                refine Lib.hid ?_
                intro _ _ _ _ _ _ _ _ _ _ _ _ _ _ _ _ _ _ _ _ _ _ _ _ _ _ _ _ _ _ _ _ _ _ _ _ _ _ _ _ _ _ _ _ _ _ _ _ _ _ _ _ _ _ _ _ _ _ _ _ _ _ _ _ _ _ _ _ _ _ _ _ _ _ _ _ _ _ _ _ _ _ _ _ wr7 hk7
                go_wp2_with fail
                refine ⟨⟨i + 1, by simp, by omega, HKN.out.trans hk7 (fun _ _ e => e)⟩, ?_⟩
                show ops.length + 1 - ((i : Int) + 1).toNat < ops.length + 1 - ((i : Int)).toNat
                omega
              · refine fs_tD i pl.length ops.length cp g3 cap3 tg tc pg po fg fo fc x.op (sIn x).dst (sIn x).src (sIn x).off (sIn x).imm (x.dst % 4) v wr hip hio2 hol1 (by omega) (by omega) ct cw (by rw [← hm]; exact HP.out.1) HP.out.2.1 HP.out.2.2.1 HP.out.2.2.2.1 HP.out.2.2.2.2 (by rw [← hm]; exact q0) q1 q2 q3 q4 (hsm.trans (decide_eq_false hs)) _ _ _ _ _ _ _ _ _ _ _ _ _ _ _ _ _ _ _ _ _ _ _ _ _ _ _ _ _ _ _ _ _ _ _ _ _ _ _ _ _ _ _ _ _ _ _ _ _ _ _ _ _ _ _ _ _ _ _ _ _ _ _ _ _ _ _ _ _ _ _ _ _ _ _ _ _ _ _ _ _ _ _ _ _ _ _ _ _ _ _ _ _ _ _ _ _ _ _ _ _ _ _ _ _ _ _ _ _ _ _ _ _ _ _ _ _ _ _ _ _ _ _ _ _ _ _ _ _ _ _ _ _ _ _ _ _ _ _ _ _ _ _ _ _ _ _ _ _ _ _ _ _ _ _ _ _ _ _ _ _ _ _ _ _ _ _ _ _ _ _ _ _ _ _ _ _ _ _ _ _ _ _ _ _ _ _ _ _ _ _ _ _ _ _ _ _ _ _ _ _ _ _ _ _ _ _ _ _ _ _ _ _ _ _ _ _ _ _ _ _ _ _ _ _ _ _ _ _ _ _ _ _ _ _ _ _ _ _ _ _ _ _ _ _ _ _ _ _ _ _ _ _ _ _ _ _ _ _ _ _ _ _ _ _ _ _ _ _ _ _ _ _ _ _ _ _ _ (by assumption) ?_
                refine Lib.hid ?_
                intro _ _ _ _ _ _ _ _ _ _ _ _ _ _ _ _ _ _ _ _ _ _ _ _ _ _ _ _ _ _ _ _ _ _ _ _ _ _ _ _ _ _ _ _ _ _ _ _ _ _ _ _ _ _ _ _ _ _ _ _ _ _ _ _ _ _ _ _ _ _ _ _ _ _ _ _ _ _ _ _ _ _ _ _ wr7 hk7
                go_wp2_with fail
                refine ⟨⟨i + 1, by simp, by omega, HKN.out.trans hk7 (fun _ _ e => e)⟩, ?_⟩
                show ops.length + 1 - ((i : Int) + 1).toNat < ops.length + 1 - ((i : Int)).toNat
                omega
            · rw [if_neg (fun e => e.elim hm hm2)] at q0 q1 q2 q3 q4
              rcases Decidable.em (signN (lowI v) = v) with hs | hs
              · rw [if_pos hs] at q0 q1 q2 q3 q4
                refine fs_tE i pl.length ops.length cp g3 cap3 tg tc pg po fg fo fc x.op (sIn x).dst (sIn x).src (sIn x).off (sIn x).imm (x.dst % 4) v wr hip hio2 hol1 (by omega) (by omega) ct cw HP.out.1 HP.out.2.1 HP.out.2.2.1 HP.out.2.2.2.1 HP.out.2.2.2.2 hm hm2 (by simp [hm, hm2]) (lowI v) (Lib.hid (lowI_eq v)) q0 q1 q2 q3 q4 (hsm.trans (decide_eq_true hs)) _ _ _ _ _ _ _ _ _ _ _ _ _ _ _ _ _ _ _ _ _ _ _ _ _ _ _ _ _ _ _ _ _ _ _ _ _ _ _ _ _ _ _ _ _ _ _ _ _ _ _ _ _ _ _ _ _ _ _ _ _ _ _ _ _ _ _ _ _ _ _ _ _ _ _ _ _ _ _ _ _ _ _ _ _ _ _ _ _ _ _ _ _ _ _ _ _ _ _ _ _ _ _ _ _ _ _ _ _ _ _ _ _ _ _ _ _ _ _ _ _ _ _ _ _ _ _ _ _ _ _ _ _ _ _ _ _ _ _ _ _ _ _ _ _ _ _ _ _ _ _ _ _ _ _ _ _ _ _ _ _ _ _ _ _ _ _ _ _ _ _ _ _ _ _ _ _ _ _ _ _ _ _ _ _ _ _ _ _ _ _ _ _ _ _ _ _ _ _ _ _ _ _ _ _ _ _ _ _ _ _ _ _ _ _ _ _ _ _ _ _ _ _ _ _ _ _ _ _ _ _ _ _ _ _ _ _ _ _ _ _ _ _ _ _ _ _ _ _ _ _ _ _ _ _ _ _ _ _ _ _ _ _ _ _ _ _ _ _ _ _ _ _ _ _ _ _ _ (by assumption) ?_
                refine Lib.hid ?_
                intro _ _ _ _ _ _ _ _ _ _ _ _ _ _ _ _ _ _ _ _ _ _ _ _ _ _ _ _ _ _ _ _ _ _ _ _ _ _ _ _ _ _ _ _ _ _ _ _ _ _ _ _ _ _ _ _ _ _ _ _ _ _ _ _ _ _ _ _ _ _ _ _ _ _ _ _ _ _ _ _ _ _ _ _ wr7 hk7
                go_wp2_with fail
                refine ⟨⟨i + 1, by simp, by omega, HKN.out.trans hk7 (fun _ _ e => e)⟩, ?_⟩
                show ops.length + 1 - ((i : Int) + 1).toNat < ops.length + 1 - ((i : Int)).toNat
                omega
              · rw [if_neg hs] at q0 q1 q2 q3 q4
                refine fs_tF i pl.length ops.length cp g3 cap3 tg tc pg po fg fo fc x.op (sIn x).dst (sIn x).src (sIn x).off (sIn x).imm (x.dst % 4) v wr hip hio2 hol1 (by omega) (by omega) ct cw HP.out.1 HP.out.2.1 HP.out.2.2.1 HP.out.2.2.2.1 HP.out.2.2.2.2 hm hm2 (by simp [hm, hm2]) q0 q1 q2 q3 q4 (hsm.trans (decide_eq_false hs)) _ _ _ _ _ _ _ _ _ _ _ _ _ _ _ _ _ _ _ _ _ _ _ _ _ _ _ _ _ _ _ _ _ _ _ _ _ _ _ _ _ _ _ _ _ _ _ _ _ _ _ _ _ _ _ _ _ _ _ _ _ _ _ _ _ _ _ _ _ _ _ _ _ _ _ _ _ _ _ _ _ _ _ _ _ _ _ _ _ _ _ _ _ _ _ _ _ _ _ _ _ _ _ _ _ _ _ _ _ _ _ _ _ _ _ _ _ _ _ _ _ _ _ _ _ _ _ _ _ _ _ _ _ _ _ _ _ _ _ _ _ _ _ _ _ _ _ _ _ _ _ _ _ _ _ _ _ _ _ _ _ _ _ _ _ _ _ _ _ _ _ _ _ _ _ _ _ _ _ _ _ _ _ _ _ _ _ _ _ _ _ _ _ _ _ _ _ _ _ _ _ _ _ _ _ _ _ _ _ _ _ _ _ _ _ _ _ _ _ _ _ _ _ _ _ _ _ _ _ _ _ _ _ _ _ _ _ _ _ _ _ _ _ _ _ _ _ _ _ _ _ _ _ _ _ _ _ _ _ _ _ _ _ _ _ _ _ _ _ _ _ _ _ _ _ _ _ _ (by assumption) ?_
                refine Lib.hid ?_
                intro _ _ _ _ _ _ _ _ _ _ _ _ _ _ _ _ _ _ _ _ _ _ _ _ _ _ _ _ _ _ _ _ _ _ _ _ _ _ _ _ _ _ _ _ _ _ _ _ _ _ _ _ _ _ _ _ _ _ _ _ _ _ _ _ _ _ _ _ _ _ _ _ _ _ _ _ _ _ _ _ _ _ _ _ wr7 hk7
                go_wp2_with fail
                refine ⟨⟨i + 1, by simp, by omega, HKN.out.trans hk7 (fun _ _ e => e)⟩, ?_⟩
                show ops.length + 1 - ((i : Int) + 1).toNat < ops.length + 1 - ((i : Int)).toNat
                omega
        case pos => as_aux_lemma =>
          have HKN := Lib.hid hkn
          have hkw := HKI.out.trans hkn (fun _ _ e => e)
          obtain ⟨v, hv⟩ : ∃ v, (regsN [f0, f1, f2, f3] ops i)[n]? = some v := ⟨_, List.getElem?_eq_getElem (by rw [regsN_len rfl]; exact hn4)⟩
          have hrow := HST.out V2 HVI.out i (by omega)
          have hS := Sl.kept hkw HV5.out (fun _ _ e => e)
          have hC := fun k hk => val_cell hS hrow hv (k := k) hk
          have k0 : wr.cell? ⟨kg, (4 + i) * 44 + n * 4, none⟩ = some (.int .i64 1) := hC 0 (by omega)
          have k1 : wr.cell? ⟨kg, (4 + i) * 44 + n * 4 + 1, none⟩ = some (.int .u64 (v : Nat)) := hC 1 (by omega)
          have k2 : wr.cell? ⟨kg, (4 + i) * 44 + n * 4 + 2, none⟩ = some (.int .i64 0) := hC 2 (by omega)
          have k3 : wr.cell? ⟨kg, (4 + i) * 44 + n * 4 + 3, none⟩ = some (.int .i64 0) := hC 3 (by omega)
          have kw : wr.cell? ⟨g3, i * 4 + n, none⟩ = some (.int .u64 (v : Nat)) := by
            rw [Sl.cell (Sl.kept hkw HW5.out (fun _ _ e => e)) (wantA_get _ _ (by omega)) hn4]
            unfold ucells
            rw [List.getElem?_map, hv]
            rfl
          clear hkn hkw hS hC hrow hv
          go_upto_region 43 with fail
          refine wp_region_mix0 [.w, .w, .w, .w, .w, .w, .l, .w, .w, .w, .w, .w, .l, .w, .w] (by kernel_rfl) (by kernel_rfl) ?_
          repeat (first
            | (refine mix_w1 ?_; go_big_quiet_step (fail); refine wpQuiet_nil ?_)
            | (refine mix_l1 rfl ?_; go_big_quiet_step (fail); refine wpQuiet_nil ?_))
          refine mix_nil ?_
          go_wp2_with fail
          refine ⟨⟨n + 1, by simp, by omega, HKN.out.drew⟩, ?_⟩
          show 4 - ((n : Int) + 1).toNat < 4 - ((n : Int)).toNat
          omega

end Go.Proofs.YtdchmelgaljpfaaGreat

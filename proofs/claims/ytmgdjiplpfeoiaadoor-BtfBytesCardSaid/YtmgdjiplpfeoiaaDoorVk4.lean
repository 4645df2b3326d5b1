import Derived.Test.YtmgdjiplpfeoiaaDoorVd
import Derived.Outline
import Derived.Deep.DeepCutAuto
import Derived.Deep.CutBlock
set_option linter.unusedSimpArgs false
set_option linter.unusedVariables false
namespace Go.Proofs.YtmgdjiplpfeoiaaDoor
open Go.RowKit

set_option maxHeartbeats 8000000 in
set_option maxRecDepth 100000 in
theorem one_t4_4 (l : List Ty) (g o c : Nat) (i : Nat) (t : Ty) (w : World) (ma : Option Addr) (mc G : Nat) (wc : World) (h : Tys w (.slice (some ⟨g, o, none⟩) l.length c) l) (hf : Fit l) (ht : l[i]? = some t) (hm : Mbs w (.slice ma t.mem.length mc) t.mem) (hgl : g < w.heap.size)
    (hkk : t.kind = 4) (HK : Hid (¬ (t.kind < 1 ∨ 6 < t.kind))) (hAW : aloneC l i t = if restOk t = false then 41 else 0) (hBn : Blk wc G 38 (tyVals t (.slice ma t.mem.length mc))) (hKn : Kept (fun _ => False) w wc)
    {u2 u3 u4 u6 u7 u8 u9 u10 u11 u12 u13 u14 u15 u16 u17 u18 u19 u20 u21 u22 u23 u24 u25 u26 u27 u28 u29 u30 u31 u32 u33 u34 u35 u36 u37 u38 u39 u40 u41 u42 u43 u44 u45 u46 u47 u48 u49 u50 u51 u52 u53 u54 u55 u56 u57 u58 u59 u60 u61 u62 u63 u64 u65 u66 u67 u68 u69 u70 u71 u72 u73 u74 u75 u76 u77 u78 u79 u80 u81 u82 u83 u84 u85 u86 u87 u88 u89 u90 u91 u92 u93 u94 u95 u96 u97 u98 u99 u100 u101 u102 u103 u104 u105 u106 u107 u108 u109 u110 u111 u112 u113 u114 u115 u116 u117 u118 u119 u120 u121 u122 u123 u124 u125 u126 u127 u128 u129 u130 u131 u132 u133 u134 u135 u136 u137 u138 u139 u140 u141 u142 u143 u144 u145 u146 u147 u148 u149 u150 u151 u152 u153 u154 u155 u156 u157 u158 u159 u160 u161 u162 u163 u164 u165 u166 u167 u168 u169 u170 u171 u172 u173 u174 u175 u176 u177 u178 u179 u180 u181 u182 u183 u184 u185 u186 u187 u188 u189 u190 u191 u192 u193 u194 u195 u196 u197 u198 u199 u200 u201 u202 u203 u204 u205 u206 u207 u208 u209 u210 u211 u212 u213 u214 u215 u216 u217 u218 u219 u220 u221 u222 u223 u224 u225 u226 u227 u228 u229 u230 u231 u232 u233 u234 u235 u236 u237 u238 u239 u240 u241 u242 u243 u244 u245 u246 u247 u248 u249 u250 u251 u252 u253 u254 u255 u256 u257 u258 u259 u260 u261 u262 u263 u264 u265 u266 u267 u268 u269 u270 u271 u272 u273 u274 u275 u276 u277 u278 u279 u280 u281 u282 u283 u284 u285 u286 u287 u288 u289 u290 u291 u292 u293 : Value} : Code.wp Tryd.prog (behind 13 (bodyOf Tryd.f60)) (bodyPost Tryd.prog Tryd.f60 fun e w' => e = .returned (.int .i64 (aloneC l i t)) ∧ Kept (fun _ => False) w w') { tmps := #[.slice (some ⟨g, o, none⟩) l.length c, .int .i64 (i : Int), u2, u3, u4, .pointer (some ⟨G, 0, none⟩), u6, u7, u8, u9, u10, u11, u12, u13, u14, u15, u16, u17, u18, u19, u20, u21, u22, u23, u24, u25, u26, u27, u28, u29, u30, u31, u32, u33, u34, u35, u36, u37, u38, u39, u40, u41, u42, u43, u44, u45, u46, u47, u48, u49, u50, u51, u52, u53, u54, u55, u56, u57, u58, u59, u60, u61, u62, u63, u64, u65, u66, u67, u68, u69, u70, u71, u72, u73, u74, u75, u76, u77, u78, u79, u80, u81, u82, u83, u84, u85, u86, u87, u88, u89, u90, u91, u92, u93, u94, u95, u96, u97, u98, u99, u100, u101, u102, u103, u104, u105, u106, u107, u108, u109, u110, u111, u112, u113, u114, u115, u116, u117, u118, u119, u120, u121, u122, u123, u124, u125, u126, u127, u128, u129, u130, u131, u132, u133, u134, u135, u136, u137, u138, u139, u140, u141, u142, u143, u144, u145, u146, u147, u148, u149, u150, u151, u152, u153, u154, u155, u156, u157, u158, u159, u160, u161, u162, u163, u164, u165, u166, u167, u168, u169, u170, u171, u172, u173, u174, u175, u176, u177, u178, u179, u180, u181, u182, u183, u184, u185, u186, u187, u188, u189, u190, u191, u192, u193, u194, u195, u196, u197, u198, u199, u200, u201, u202, u203, u204, u205, u206, u207, u208, u209, u210, u211, u212, u213, u214, u215, u216, u217, u218, u219, u220, u221, u222, u223, u224, u225, u226, u227, u228, u229, u230, u231, u232, u233, u234, u235, u236, u237, u238, u239, u240, u241, u242, u243, u244, u245, u246, u247, u248, u249, u250, u251, u252, u253, u254, u255, u256, u257, u258, u259, u260, u261, u262, u263, u264, u265, u266, u267, u268, u269, u270, u271, u272, u273, u274, u275, u276, u277, u278, u279, u280, u281, u282, u283, u284, u285, u286, u287, u288, u289, u290, u291, u292, u293], defers := [] } wc := by
  have hi := (List.getElem?_eq_some_iff.1 ht).1
  have htm := List.mem_of_getElem? ht
  have h256 := hf.len
  have hnl := hf.name t htm
  have hml := hf.mname t htm
  have hm64 := hf.mem t htm
  let Q0 : Exit → Act → World → Prop := bodyPost Tryd.prog Tryd.f60 fun e w' => e = .returned (.int .i64 (aloneC l i t)) ∧ Kept (fun _ => False) w w'
  show Code.wp Tryd.prog _ Q0 _ wc
  dsimp only [behind, bodyOf, Tryd.f60, Option.getD]
  have b0 : wc.cell? ⟨G, 0, none⟩ = some (.int .i64 t.kind) := hBn.cell 0
  go_upto_region 45 with fail
  go_cut [15] (fun s wx => s = .bool true ∧ wc = wx)
  case first =>
    as_aux_lemma =>
    clear hAW HK
    rw [hkk] at b0
    clear hkk
    go_wp2_with fail
    go_meet
    exact ⟨by first | rfl | simp, rfl⟩
  case rest =>
  obtain ⟨rfl, rfl⟩ := hcut
  go_upto_region 46 with fail
  go_cut [15, 293] (fun _ s wx => s = .bool (!restOk t) ∧ wc = wx)
  case first =>
    as_aux_lemma =>
    have b2 : wc.cell? ⟨G, 2, none⟩ = some (.int .i64 t.size) := hBn.cell 2
    have b3 : wc.cell? ⟨G, 3, none⟩ = some (.bool t.signed) := hBn.cell 3
    have b5 : wc.cell? ⟨G, 5, none⟩ = some (.int .i64 t.count) := hBn.cell 5
    have b6 : wc.cell? ⟨G, 6, none⟩ = some (.slice ma t.mem.length mc) := hBn.cell 6
    clear ht htm hm h hml hnl hBn hAW HK
    obtain ⟨kind, name, size, signed, too, count, mem⟩ := t
    dsimp only at b0 b2 b3 b5 b6 hkk hm64 ⊢
    subst hkk
    have hR : restOk ⟨4, name, size, signed, too, count, mem⟩ = (size == (if (4 : Int) = 1 ∨ (4 : Int) = 4 then size else 0) && signed == (signed && (4 : Int) == 1) && count == (if (4 : Int) = 3 then count else 0) && mem.length == (if (4 : Int) = 4 ∨ (4 : Int) = 6 then mem.length else 0)) := rfl
    obtain ⟨n, hn⟩ : ∃ n, mem.length = n := ⟨_, rfl⟩
    rw [hn] at b6 hm64 hR
    have HR := Lib.hid hR
    have HN := Lib.hid hn
    clear hR hn
    cases signed
    · cases hc : (count != 0)
      · go_wp2_with fail
        go_meet
        exact ⟨congrArg Value.bool (by rw [HR.out]; first | (simp_all; done) | (simp_all; omega)), rfl⟩
      · go_wp2_with fail
        go_meet
        exact ⟨congrArg Value.bool (by rw [HR.out]; first | (simp_all; done) | (simp_all; omega)), rfl⟩
    · go_wp2_with fail
      go_meet
      exact ⟨congrArg Value.bool (by rw [HR.out]; first | (simp_all; done) | (simp_all; omega)), rfl⟩
  case rest =>
  obtain ⟨rfl, rfl⟩ := hcut
  cases hro : restOk t with
  | false =>
    rw [hro] at hAW
    have hA : aloneC l i t = 41 := by rw [hAW]; rfl
    clear hAW
    go_wp2_with fail
    go_ret
    exact ⟨by first | rfl | (rw [hA]; rfl), hKn⟩
  | true =>
    rw [hro] at hAW
    have hA : aloneC l i t = 0 := by rw [hAW]; rfl
    clear hAW
    go_wp2_with fail
    go_ret
    exact ⟨by first | rfl | (rw [hA]; rfl), hKn⟩


end Go.Proofs.YtmgdjiplpfeoiaaDoor

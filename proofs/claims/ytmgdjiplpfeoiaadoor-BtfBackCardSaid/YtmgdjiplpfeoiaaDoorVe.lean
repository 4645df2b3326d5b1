import Derived.Test.YtmgdjiplpfeoiaaDoorVk1
import Derived.Test.YtmgdjiplpfeoiaaDoorVk2
import Derived.Test.YtmgdjiplpfeoiaaDoorVk3
import Derived.Test.YtmgdjiplpfeoiaaDoorVk4
import Derived.Test.YtmgdjiplpfeoiaaDoorVk5
import Derived.Test.YtmgdjiplpfeoiaaDoorVk6
import Derived.Outline
import Derived.Deep.DeepCutAuto
import Derived.Deep.CutBlock
set_option linter.unusedSimpArgs false
set_option linter.unusedVariables false
namespace Go.Proofs.YtmgdjiplpfeoiaaDoor
open Go.RowKit

set_option maxHeartbeats 8000000 in
set_option maxRecDepth 100000 in
theorem one_t4 (l : List Ty) (g o c : Nat) (i : Nat) (t : Ty) (w : World) (ma : Option Addr) (mc G : Nat) (wc : World) (h : Tys w (.slice (some ⟨g, o, none⟩) l.length c) l) (hf : Fit l) (ht : l[i]? = some t) (hm : Mbs w (.slice ma t.mem.length mc) t.mem) (hgl : g < w.heap.size)
    (HK : Hid (¬ (t.kind < 1 ∨ 6 < t.kind))) (hAW : aloneC l i t = if restOk t = false then 41 else 0) (hBn : Blk wc G 38 (tyVals t (.slice ma t.mem.length mc))) (hKn : Kept (fun _ => False) w wc)
    {u2 u3 u4 u6 u7 u8 u9 u10 u11 u12 u13 u14 u15 u16 u17 u18 u19 u20 u21 u22 u23 u24 u25 u26 u27 u28 u29 u30 u31 u32 u33 u34 u35 u36 u37 u38 u39 u40 u41 u42 u43 u44 u45 u46 u47 u48 u49 u50 u51 u52 u53 u54 u55 u56 u57 u58 u59 u60 u61 u62 u63 u64 u65 u66 u67 u68 u69 u70 u71 u72 u73 u74 u75 u76 u77 u78 u79 u80 u81 u82 u83 u84 u85 u86 u87 u88 u89 u90 u91 u92 u93 u94 u95 u96 u97 u98 u99 u100 u101 u102 u103 u104 u105 u106 u107 u108 u109 u110 u111 u112 u113 u114 u115 u116 u117 u118 u119 u120 u121 u122 u123 u124 u125 u126 u127 u128 u129 u130 u131 u132 u133 u134 u135 u136 u137 u138 u139 u140 u141 u142 u143 u144 u145 u146 u147 u148 u149 u150 u151 u152 u153 u154 u155 u156 u157 u158 u159 u160 u161 u162 u163 u164 u165 u166 u167 u168 u169 u170 u171 u172 u173 u174 u175 u176 u177 u178 u179 u180 u181 u182 u183 u184 u185 u186 u187 u188 u189 u190 u191 u192 u193 u194 u195 u196 u197 u198 u199 u200 u201 u202 u203 u204 u205 u206 u207 u208 u209 u210 u211 u212 u213 u214 u215 u216 u217 u218 u219 u220 u221 u222 u223 u224 u225 u226 u227 u228 u229 u230 u231 u232 u233 u234 u235 u236 u237 u238 u239 u240 u241 u242 u243 u244 u245 u246 u247 u248 u249 u250 u251 u252 u253 u254 u255 u256 u257 u258 u259 u260 u261 u262 u263 u264 u265 u266 u267 u268 u269 u270 u271 u272 u273 u274 u275 u276 u277 u278 u279 u280 u281 u282 u283 u284 u285 u286 u287 u288 u289 u290 u291 u292 u293 : Value} : Code.wp Tryd.prog (behind 13 (bodyOf Tryd.f60)) (bodyPost Tryd.prog Tryd.f60 fun e w' => e = .returned (.int .i64 (aloneC l i t)) ∧ Kept (fun _ => False) w w') { tmps := #[.slice (some ⟨g, o, none⟩) l.length c, .int .i64 (i : Int), u2, u3, u4, .pointer (some ⟨G, 0, none⟩), u6, u7, u8, u9, u10, u11, u12, u13, u14, u15, u16, u17, u18, u19, u20, u21, u22, u23, u24, u25, u26, u27, u28, u29, u30, u31, u32, u33, u34, u35, u36, u37, u38, u39, u40, u41, u42, u43, u44, u45, u46, u47, u48, u49, u50, u51, u52, u53, u54, u55, u56, u57, u58, u59, u60, u61, u62, u63, u64, u65, u66, u67, u68, u69, u70, u71, u72, u73, u74, u75, u76, u77, u78, u79, u80, u81, u82, u83, u84, u85, u86, u87, u88, u89, u90, u91, u92, u93, u94, u95, u96, u97, u98, u99, u100, u101, u102, u103, u104, u105, u106, u107, u108, u109, u110, u111, u112, u113, u114, u115, u116, u117, u118, u119, u120, u121, u122, u123, u124, u125, u126, u127, u128, u129, u130, u131, u132, u133, u134, u135, u136, u137, u138, u139, u140, u141, u142, u143, u144, u145, u146, u147, u148, u149, u150, u151, u152, u153, u154, u155, u156, u157, u158, u159, u160, u161, u162, u163, u164, u165, u166, u167, u168, u169, u170, u171, u172, u173, u174, u175, u176, u177, u178, u179, u180, u181, u182, u183, u184, u185, u186, u187, u188, u189, u190, u191, u192, u193, u194, u195, u196, u197, u198, u199, u200, u201, u202, u203, u204, u205, u206, u207, u208, u209, u210, u211, u212, u213, u214, u215, u216, u217, u218, u219, u220, u221, u222, u223, u224, u225, u226, u227, u228, u229, u230, u231, u232, u233, u234, u235, u236, u237, u238, u239, u240, u241, u242, u243, u244, u245, u246, u247, u248, u249, u250, u251, u252, u253, u254, u255, u256, u257, u258, u259, u260, u261, u262, u263, u264, u265, u266, u267, u268, u269, u270, u271, u272, u273, u274, u275, u276, u277, u278, u279, u280, u281, u282, u283, u284, u285, u286, u287, u288, u289, u290, u291, u292, u293], defers := [] } wc := by
  have hk := HK.out
  have hkk : t.kind = 1 ∨ t.kind = 2 ∨ t.kind = 3 ∨ t.kind = 4 ∨ t.kind = 5 ∨ t.kind = 6 := by omega
  rcases hkk with hkk | hkk | hkk | hkk | hkk | hkk
  · exact one_t4_1 l g o c i t w ma mc G wc h hf ht hm hgl hkk HK hAW hBn hKn
  · exact one_t4_2 l g o c i t w ma mc G wc h hf ht hm hgl hkk HK hAW hBn hKn
  · exact one_t4_3 l g o c i t w ma mc G wc h hf ht hm hgl hkk HK hAW hBn hKn
  · exact one_t4_4 l g o c i t w ma mc G wc h hf ht hm hgl hkk HK hAW hBn hKn
  · exact one_t4_5 l g o c i t w ma mc G wc h hf ht hm hgl hkk HK hAW hBn hKn
  · exact one_t4_6 l g o c i t w ma mc G wc h hf ht hm hgl hkk HK hAW hBn hKn

end Go.Proofs.YtmgdjiplpfeoiaaDoor

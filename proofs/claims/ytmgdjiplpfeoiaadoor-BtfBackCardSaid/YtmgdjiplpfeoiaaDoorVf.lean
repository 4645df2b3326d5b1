import Derived.Test.YtmgdjiplpfeoiaaDoorVe
import Derived.Outline
import Derived.Deep.DeepCutAuto
import Derived.Deep.CutBlock
set_option linter.unusedSimpArgs false
set_option linter.unusedVariables false
namespace Go.Proofs.YtmgdjiplpfeoiaaDoor
open Go.RowKit

set_option maxHeartbeats 8000000 in
set_option maxRecDepth 100000 in
theorem one_t3 (l : List Ty) (g o c : Nat) (i : Nat) (t : Ty) (w : World) (ma : Option Addr) (mc G : Nat) (wc : World) (h : Tys w (.slice (some ⟨g, o, none⟩) l.length c) l) (hf : Fit l) (ht : l[i]? = some t) (hm : Mbs w (.slice ma t.mem.length mc) t.mem) (hgl : g < w.heap.size)
    (HK : Hid (¬ (t.kind < 1 ∨ 6 < t.kind))) (HCL : Hid (calledB l i t = true)) (HSZ : Hid (sizedB t = true)) (hmem : membersB t = true) (hBn : Blk wc G 38 (tyVals t (.slice ma t.mem.length mc))) (hKn : Kept (fun _ => False) w wc)
    {u2 u3 u4 u6 u7 u8 u9 u10 u11 u12 u13 u14 u15 u16 u17 u18 u19 u20 u21 u22 u23 u24 u25 u26 u27 u28 u29 u30 u31 u32 u33 u34 u35 u36 u37 u38 u39 u40 u41 u42 u43 u44 u45 u46 u47 u48 u49 u50 u51 u52 u53 u54 u55 u56 u57 u58 u59 u60 u61 u62 u63 u64 u65 u66 u67 u68 u69 u70 u71 u72 u73 u74 u75 u76 u77 u78 u79 u80 u81 u82 u83 u84 u85 u86 u87 u88 u89 u90 u91 u92 u93 u94 u95 u96 u97 u98 u99 u100 u101 u102 u103 u104 u105 u106 u107 u108 u109 u110 u111 u112 u113 u114 u115 u116 u117 u118 u119 u120 u121 u122 u123 u124 u125 u126 u127 u128 u129 u130 u131 u132 u133 u134 u135 u136 u137 u138 u139 u140 u141 u142 u143 u144 u145 u146 u147 u148 u149 u150 u151 u152 u153 u154 u155 u156 u157 u158 u159 u160 u161 u162 u163 u164 u165 u166 u167 u168 u169 u170 u171 u172 u173 u174 u175 u176 u177 u178 u179 u180 u181 u182 u183 u184 u185 u186 u187 u188 u189 u190 u191 u192 u193 u194 u195 u196 u197 u198 u199 u200 u201 u202 u203 u204 u205 u206 u207 u208 u209 u210 u211 u212 u213 u214 u215 u216 u217 u218 u219 u220 u221 u222 u223 u224 u225 u226 u227 u228 u229 u230 u231 u232 u233 u234 u235 u236 u237 u238 u239 u240 u241 u242 u243 u244 u245 u246 u247 u248 u249 u250 u251 u252 u253 u254 u255 u256 u257 u258 u259 u260 u261 u262 u263 u264 u265 u266 u267 u268 u269 u270 u271 u272 u273 u274 u275 u276 u277 u278 u279 u280 u281 u282 u283 u284 u285 u286 u287 u288 u289 u290 u291 u292 u293 : Value} : Code.wp Tryd.prog (behind 8 (bodyOf Tryd.f60)) (bodyPost Tryd.prog Tryd.f60 fun e w' => e = .returned (.int .i64 (aloneC l i t)) ∧ Kept (fun _ => False) w w') { tmps := #[.slice (some ⟨g, o, none⟩) l.length c, .int .i64 (i : Int), u2, u3, u4, .pointer (some ⟨G, 0, none⟩), u6, u7, u8, u9, u10, u11, u12, u13, u14, u15, u16, u17, u18, u19, u20, u21, u22, u23, u24, u25, u26, u27, u28, u29, u30, u31, u32, u33, u34, u35, u36, u37, u38, u39, u40, u41, u42, u43, u44, u45, u46, u47, u48, u49, u50, u51, u52, u53, u54, u55, u56, u57, u58, u59, u60, u61, u62, u63, u64, u65, u66, u67, u68, u69, u70, u71, u72, u73, u74, u75, u76, u77, u78, u79, u80, u81, u82, u83, u84, u85, u86, u87, u88, u89, u90, u91, u92, u93, u94, u95, u96, u97, u98, u99, u100, u101, u102, u103, u104, u105, u106, u107, u108, u109, u110, u111, u112, u113, u114, u115, u116, u117, u118, u119, u120, u121, u122, u123, u124, u125, u126, u127, u128, u129, u130, u131, u132, u133, u134, u135, u136, u137, u138, u139, u140, u141, u142, u143, u144, u145, u146, u147, u148, u149, u150, u151, u152, u153, u154, u155, u156, u157, u158, u159, u160, u161, u162, u163, u164, u165, u166, u167, u168, u169, u170, u171, u172, u173, u174, u175, u176, u177, u178, u179, u180, u181, u182, u183, u184, u185, u186, u187, u188, u189, u190, u191, u192, u193, u194, u195, u196, u197, u198, u199, u200, u201, u202, u203, u204, u205, u206, u207, u208, u209, u210, u211, u212, u213, u214, u215, u216, u217, u218, u219, u220, u221, u222, u223, u224, u225, u226, u227, u228, u229, u230, u231, u232, u233, u234, u235, u236, u237, u238, u239, u240, u241, u242, u243, u244, u245, u246, u247, u248, u249, u250, u251, u252, u253, u254, u255, u256, u257, u258, u259, u260, u261, u262, u263, u264, u265, u266, u267, u268, u269, u270, u271, u272, u273, u274, u275, u276, u277, u278, u279, u280, u281, u282, u283, u284, u285, u286, u287, u288, u289, u290, u291, u292, u293], defers := [] } wc := by
  have hi := (List.getElem?_eq_some_iff.1 ht).1
  have htm := List.mem_of_getElem? ht
  have h256 := hf.len
  have hnl := hf.name t htm
  have hml := hf.mname t htm
  have hm64 := hf.mem t htm
  let Q0 : Exit → Act → World → Prop := bodyPost Tryd.prog Tryd.f60 fun e w' => e = .returned (.int .i64 (aloneC l i t)) ∧ Kept (fun _ => False) w w'
  show Code.wp Tryd.prog _ Q0 _ wc
  dsimp only [behind, bodyOf, Tryd.f60, Option.getD]
  have HMEM := Lib.hid hmem
  clear hmem
  have b0 : wc.cell? ⟨G, 0, none⟩ = some (.int .i64 t.kind) := hBn.cell 0
  go_upto_region 34 with fail
  go_cut [175] (fun s wx => s = .bool (t.kind == 2 || t.kind == 6) ∧ wc = wx)
  case first =>
    as_aux_lemma =>
    cases e2 : (t.kind == 2)
    · cases e6 : (t.kind == 6)
      all_goals
        go_wp2_with fail
        go_meet
        exact ⟨by simp [e2, e6], rfl⟩
    · go_wp2_with fail
      go_meet
      exact ⟨by simp [e2], rfl⟩
  case rest =>
  obtain ⟨rfl, rfl⟩ := hcut
  obtain ⟨lb, hlb⟩ : ∃ lb, (t.kind == 2 || t.kind == 6) = lb := ⟨_, rfl⟩
  rw [hlb]
  go_upto_if 175 with fail
  go_cut [11] (fun s wx => s = .int .i64 (if lb = true then 0 else 1) ∧ wc = wx)
  case first =>
    as_aux_lemma =>
    cases lb
    all_goals
      go_wp2_with fail
      go_meet
      exact ⟨rfl, rfl⟩
  case rest =>
  obtain ⟨rfl, rfl⟩ := hcut
  obtain ⟨lv, hlv⟩ : ∃ lv : Int, (if lb = true then 0 else 1) = lv := ⟨_, rfl⟩
  rw [hlv]
  go_upto_region 36 with fail
  go_cut [12] (fun s wx => s = .bool (t.kind == 2 || t.kind == 5 || t.kind == 3 || t.kind == 6) ∧ wc = wx)
  case first =>
    as_aux_lemma =>
    clear hlb
    cases e2 : (t.kind == 2)
    · cases e5 : (t.kind == 5)
      · cases e3 : (t.kind == 3)
        · cases e6 : (t.kind == 6)
          all_goals
            go_wp2_with fail
            go_meet
            exact ⟨by simp [e2, e5, e3, e6], rfl⟩
        · go_wp2_with fail
          go_meet
          exact ⟨by simp [e2, e5, e3], rfl⟩
      · go_wp2_with fail
        go_meet
        exact ⟨by simp [e2, e5], rfl⟩
    · go_wp2_with fail
      go_meet
      exact ⟨by simp [e2], rfl⟩
  case rest =>
  obtain ⟨rfl, rfl⟩ := hcut
  obtain ⟨tb, htb⟩ : ∃ tb, (t.kind == 2 || t.kind == 5 || t.kind == 3 || t.kind == 6) = tb := ⟨_, rfl⟩
  rw [htb]
  have hto : toOk t l.length = if tb = true then decide (lv ≤ t.to) && decide (t.to ≤ l.length) else decide (t.to = 0) := by
    have hk := HK.out
    unfold toOk leastC mostC
    cases tb with
    | false =>
      simp at htb
      rw [if_pos (by omega), if_pos (by omega), if_neg (by simp)]
      rw [Bool.eq_iff_iff]
      simp
      omega
    | true =>
      simp at htb
      rw [if_pos rfl, if_neg (show ¬ (t.kind = 1 ∨ t.kind = 4) by omega)]
      cases lb with
      | true =>
        simp at hlb hlv
        rw [if_pos (by omega), ← hlv]
      | false =>
        simp at hlb hlv
        rw [if_neg (by omega), ← hlv]
  have HTO := Lib.hid hto
  clear hto hlb hlv htb
  go_upto_region 37 with fail
  go_cut [216] (fun s wx => s = .bool (!toOk t l.length) ∧ wc = wx)
  case first =>
    as_aux_lemma =>
    clear b0
    have b4 : wc.cell? ⟨G, 4, none⟩ = some (.int .i64 t.to) := hBn.cell 4
    cases tb with
    | false =>
      have hto := HTO.out
      rw [if_neg (by simp)] at hto
      have HTO := Lib.hid hto
      clear hto
      by_cases hz : t.to = 0
      · have hz1 : (t.to != 0) = false := by simpa using hz
        have HZ := Lib.hid hz
        clear hz
        go_wp2_with fail
        go_meet
        exact ⟨by rw [HTO.out, HZ.out]; rfl, rfl⟩
      · have hz1 : (t.to != 0) = true := by simpa using hz
        have HZ := Lib.hid hz
        clear hz
        go_wp2_with fail
        go_meet
        exact ⟨by rw [HTO.out, decide_eq_false HZ.out]; rfl, rfl⟩
    | true =>
      have hto := HTO.out
      rw [if_pos rfl] at hto
      have HTO := Lib.hid hto
      clear hto
      by_cases h1 : t.to < lv
      · go_wp2_with fail
        go_meet
        exact ⟨by rw [HTO.out, decide_eq_false (show ¬ lv ≤ t.to by omega)]; rfl, rfl⟩
      · by_cases h2 : (l.length : Int) < t.to
        · go_wp2_with fail
          go_meet
          exact ⟨by rw [HTO.out, decide_eq_false (show ¬ t.to ≤ (l.length : Int) by omega), Bool.and_false]; rfl, rfl⟩
        · go_wp2_with fail
          go_meet
          exact ⟨by rw [HTO.out, decide_eq_true (show t.to ≤ (l.length : Int) by omega), decide_eq_true (show lv ≤ t.to by omega)]; rfl, rfl⟩
  case rest =>
  obtain ⟨rfl, rfl⟩ := hcut
  have hAW := alone_whole HK.out HCL.out HSZ.out HMEM.out
  rw [whole_eq] at hAW
  cases hto : toOk t l.length with
  | false =>
    rw [hto] at hAW
    have hA : aloneC l i t = 41 := by rw [hAW]; rfl
    clear hAW
    go_wp2_with fail
    go_ret
    exact ⟨by first | rfl | (rw [hA]; rfl), hKn⟩
  | true =>
  rw [hto, Bool.true_and] at hAW
  have HAW := Lib.hid hAW
  clear hAW hto HTO
  go_upto_block 7 with fail
  go_cut [13] (fun _ wx => t.mem.all (memIn t.kind l.length) = true ∧ Blk wx G 38 (tyVals t (.slice ma t.mem.length mc)) ∧ Kept (fun _ => False) w wx)
  case first =>
    as_aux_lemma =>
    clear b0
    go_wp2_with fail
    go_loopw [13] (fun iv wx => ∃ k : Nat, iv = .int .i64 k ∧ k ≤ t.mem.length ∧ (t.mem.take k).all (memIn t.kind l.length) = true ∧ Blk wx G 38 (tyVals t (.slice ma t.mem.length mc)) ∧ Kept (fun _ => False) w wx) (fun iv _ => t.mem.length - (intOf iv).toNat)
    case atStart => exact ⟨0, rfl, Nat.zero_le _, rfl, hBn, hKn⟩
    case round =>
      clear hBn hKn
      obtain ⟨k, rfl, hk, hall, hb, hK⟩ := hrel
      have b6 : wr.cell? ⟨G, 6, none⟩ = some (.slice ma t.mem.length mc) := hb.cell 6
      have b0 : wr.cell? ⟨G, 0, none⟩ = some (.int .i64 t.kind) := hb.cell 0
      have hlw := hb.lt
      by_cases hlt : k < t.mem.length
      case neg =>
        obtain rfl : k = t.mem.length := by omega
        rw [List.take_length] at hall
        go_wp2_with fail
        go_meet
        exact ⟨hall, hb, hK⟩
      case pos =>
      obtain ⟨m, hmk⟩ : ∃ m, t.mem[k]? = some m := ⟨_, List.getElem?_eq_getElem hlt⟩
      obtain ⟨mg, mo, rfl, hmg, m0, m1, m2⟩ := (hm.kept hK).at_ hmk
      have hnx : (t.mem.take (k + 1)).all (memIn t.kind l.length) = memIn t.kind l.length m := by
        rw [List.take_add_one, hmk, List.all_append, hall]
        simp
      have hA := fun (e : memIn t.kind l.length m = false) => HAW.out.trans (by rw [show t.mem.all (memIn t.kind l.length) = false from List.all_eq_false.2 ⟨m, List.mem_of_getElem? hmk, by rw [e]; simp⟩])
      have HNX := Lib.hid hnx
      have HA := Lib.hid hA
      have hkA := (Kept.refl (fun _ => False) wr).alloc (.cells #[nV m.name, .int .i64 m.type, .int .i64 m.bits] 42)
      have hb2 := hkA.blk (fun h => h) hb
      have hK2 := hK.alloc (.cells #[nV m.name, .int .i64 m.type, .int .i64 m.bits] 42)
      clear hmk hnx hA hall
      by_cases h1 : m.type < 1
      · have hA2 := HA.out (by unfold memIn; rw [decide_eq_false (show ¬ 1 ≤ m.type by omega)]; rfl)
        go_wp2_with fail
        go_ret
        exact ⟨by first | rfl | (rw [hA2]; rfl), hK2⟩
      by_cases h2 : (l.length : Int) < m.type
      · have hA2 := HA.out (by unfold memIn; rw [decide_eq_false (show ¬ m.type ≤ (l.length : Int) by omega), Bool.and_false]; rfl)
        go_wp2_with fail
        go_ret
        exact ⟨by first | rfl | (rw [hA2]; rfl), hK2⟩
      have hin : memIn t.kind l.length m = !(t.kind == 6 && m.bits != 0) := by unfold memIn; rw [decide_eq_true (show 1 ≤ m.type by omega), decide_eq_true (show m.type ≤ (l.length : Int) by omega), Bool.and_self, Bool.true_and]
      have HIN := Lib.hid hin
      clear hin
      cases e6 : (t.kind == 6) with
      | false =>
        go_wp2_with fail
        exact ⟨⟨k + 1, by go_num, by omega, by rw [HNX.out, HIN.out, e6]; rfl, hb2, hK2⟩, by simp [intOf]; omega⟩
      | true =>
        cases ez : (m.bits != 0) with
        | false =>
          go_wp2_with fail
          exact ⟨⟨k + 1, by go_num, by omega, by rw [HNX.out, HIN.out, e6, ez]; rfl, hb2, hK2⟩, by simp [intOf]; omega⟩
        | true =>
          have hA2 := HA.out (by rw [HIN.out, e6, ez]; rfl)
          go_wp2_with fail
          go_ret
          exact ⟨by first | rfl | (rw [hA2]; rfl), hK2⟩
  case rest =>
  clear hBn hKn b0
  obtain ⟨hall, hBn, hKn⟩ := hcut
  have hAW := HAW.out
  rw [hall, Bool.true_and] at hAW
  apply_assumption
  refine one_t4 l g o c i t w ma mc G wc h hf ht hm hgl HK hAW hBn hKn

end Go.Proofs.YtmgdjiplpfeoiaaDoor

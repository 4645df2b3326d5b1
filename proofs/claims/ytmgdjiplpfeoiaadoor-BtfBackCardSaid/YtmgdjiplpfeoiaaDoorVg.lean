import Derived.Test.YtmgdjiplpfeoiaaDoorVf
import Derived.Outline
import Derived.Deep.DeepCutAuto
import Derived.Deep.CutBlock
set_option linter.unusedSimpArgs false
set_option linter.unusedVariables false
namespace Go.Proofs.YtmgdjiplpfeoiaaDoor
open Go.RowKit

set_option maxHeartbeats 8000000 in
set_option maxRecDepth 100000 in
theorem one_t2 (l : List Ty) (g o c : Nat) (i : Nat) (t : Ty) (w : World) (ma : Option Addr) (mc G : Nat) (wc : World) (h : Tys w (.slice (some ⟨g, o, none⟩) l.length c) l) (hf : Fit l) (ht : l[i]? = some t) (hm : Mbs w (.slice ma t.mem.length mc) t.mem) (hgl : g < w.heap.size)
    (HK : Hid (¬ (t.kind < 1 ∨ 6 < t.kind))) (hcl : calledB l i t = true) (hBn : Blk wc G 38 (tyVals t (.slice ma t.mem.length mc))) (hKn : Kept (fun _ => False) w wc)
    {u2 u3 u4 u6 u7 u8 u9 u10 u11 u12 u13 u14 u15 u16 u17 u18 u19 u20 u21 u22 u23 u24 u25 u26 u27 u28 u29 u30 u31 u32 u33 u34 u35 u36 u37 u38 u39 u40 u41 u42 u43 u44 u45 u46 u47 u48 u49 u50 u51 u52 u53 u54 u55 u56 u57 u58 u59 u60 u61 u62 u63 u64 u65 u66 u67 u68 u69 u70 u71 u72 u73 u74 u75 u76 u77 u78 u79 u80 u81 u82 u83 u84 u85 u86 u87 u88 u89 u90 u91 u92 u93 u94 u95 u96 u97 u98 u99 u100 u101 u102 u103 u104 u105 u106 u107 u108 u109 u110 u111 u112 u113 u114 u115 u116 u117 u118 u119 u120 u121 u122 u123 u124 u125 u126 u127 u128 u129 u130 u131 u132 u133 u134 u135 u136 u137 u138 u139 u140 u141 u142 u143 u144 u145 u146 u147 u148 u149 u150 u151 u152 u153 u154 u155 u156 u157 u158 u159 u160 u161 u162 u163 u164 u165 u166 u167 u168 u169 u170 u171 u172 u173 u174 u175 u176 u177 u178 u179 u180 u181 u182 u183 u184 u185 u186 u187 u188 u189 u190 u191 u192 u193 u194 u195 u196 u197 u198 u199 u200 u201 u202 u203 u204 u205 u206 u207 u208 u209 u210 u211 u212 u213 u214 u215 u216 u217 u218 u219 u220 u221 u222 u223 u224 u225 u226 u227 u228 u229 u230 u231 u232 u233 u234 u235 u236 u237 u238 u239 u240 u241 u242 u243 u244 u245 u246 u247 u248 u249 u250 u251 u252 u253 u254 u255 u256 u257 u258 u259 u260 u261 u262 u263 u264 u265 u266 u267 u268 u269 u270 u271 u272 u273 u274 u275 u276 u277 u278 u279 u280 u281 u282 u283 u284 u285 u286 u287 u288 u289 u290 u291 u292 u293 : Value} : Code.wp Tryd.prog (behind 6 (bodyOf Tryd.f60)) (bodyPost Tryd.prog Tryd.f60 fun e w' => e = .returned (.int .i64 (aloneC l i t)) ∧ Kept (fun _ => False) w w') { tmps := #[.slice (some ⟨g, o, none⟩) l.length c, .int .i64 (i : Int), u2, u3, u4, .pointer (some ⟨G, 0, none⟩), u6, u7, u8, u9, u10, u11, u12, u13, u14, u15, u16, u17, u18, u19, u20, u21, u22, u23, u24, u25, u26, u27, u28, u29, u30, u31, u32, u33, u34, u35, u36, u37, u38, u39, u40, u41, u42, u43, u44, u45, u46, u47, u48, u49, u50, u51, u52, u53, u54, u55, u56, u57, u58, u59, u60, u61, u62, u63, u64, u65, u66, u67, u68, u69, u70, u71, u72, u73, u74, u75, u76, u77, u78, u79, u80, u81, u82, u83, u84, u85, u86, u87, u88, u89, u90, u91, u92, u93, u94, u95, u96, u97, u98, u99, u100, u101, u102, u103, u104, u105, u106, u107, u108, u109, u110, u111, u112, u113, u114, u115, u116, u117, u118, u119, u120, u121, u122, u123, u124, u125, u126, u127, u128, u129, u130, u131, u132, u133, u134, u135, u136, u137, u138, u139, u140, u141, u142, u143, u144, u145, u146, u147, u148, u149, u150, u151, u152, u153, u154, u155, u156, u157, u158, u159, u160, u161, u162, u163, u164, u165, u166, u167, u168, u169, u170, u171, u172, u173, u174, u175, u176, u177, u178, u179, u180, u181, u182, u183, u184, u185, u186, u187, u188, u189, u190, u191, u192, u193, u194, u195, u196, u197, u198, u199, u200, u201, u202, u203, u204, u205, u206, u207, u208, u209, u210, u211, u212, u213, u214, u215, u216, u217, u218, u219, u220, u221, u222, u223, u224, u225, u226, u227, u228, u229, u230, u231, u232, u233, u234, u235, u236, u237, u238, u239, u240, u241, u242, u243, u244, u245, u246, u247, u248, u249, u250, u251, u252, u253, u254, u255, u256, u257, u258, u259, u260, u261, u262, u263, u264, u265, u266, u267, u268, u269, u270, u271, u272, u273, u274, u275, u276, u277, u278, u279, u280, u281, u282, u283, u284, u285, u286, u287, u288, u289, u290, u291, u292, u293], defers := [] } wc := by
  have hi := (List.getElem?_eq_some_iff.1 ht).1
  have htm := List.mem_of_getElem? ht
  have h256 := hf.len
  have hnl := hf.name t htm
  have hml := hf.mname t htm
  have hm64 := hf.mem t htm
  let Q0 : Exit → Act → World → Prop := bodyPost Tryd.prog Tryd.f60 fun e w' => e = .returned (.int .i64 (aloneC l i t)) ∧ Kept (fun _ => False) w w'
  show Code.wp Tryd.prog _ Q0 _ wc
  dsimp only [behind, bodyOf, Tryd.f60, Option.getD]
  obtain ⟨wb, hwb⟩ : ∃ wb, wb = wc := ⟨_, rfl⟩
  have b0 : wc.cell? ⟨G, 0, none⟩ = some (.int .i64 t.kind) := hBn.cell 0
  have HCL := Lib.hid hcl
  clear hcl
  go_upto_block 2 with fail
  go_cut [85] (fun _ wx => sizedB t = true ∧ wc = wx)
  case first =>
    as_aux_lemma =>
    have b2 : wc.cell? ⟨G, 2, none⟩ = some (.int .i64 t.size) := hBn.cell 2
    have b5 : wc.cell? ⟨G, 5, none⟩ = some (.int .i64 t.count) := hBn.cell 5
    clear ht htm hm h hm64 hml hnl hBn
    obtain ⟨kind, name, size, signed, too, count, mem⟩ := t
    simp only at b0 b2 b5
    by_cases h1 : kind = 1
    · subst h1
      have hs : sizedB ⟨1, name, size, signed, too, count, mem⟩ = (size == 1 || size == 2 || size == 4 || size == 8) := rfl
      have hA := fun e => alone43 HK.out HCL.out (hs.trans e)
      have HS := Lib.hid hs
      have HA := Lib.hid hA
      clear hs hA
      rcases Classical.em (size = 1 ∨ size = 2 ∨ size = 4 ∨ size = 8) with hz | hz
      · have hsz := Lib.hid (show (size == 1 || size == 2 || size == 4 || size == 8) = true by simp; omega)
        have z : (size != 1) = false ∨ ((size != 1) = true ∧ (size != 2) = false) ∨ ((size != 1) = true ∧ (size != 2) = true ∧ (size != 4) = false) ∨ ((size != 1) = true ∧ (size != 2) = true ∧ (size != 4) = true ∧ (size != 8) = false) := by simp; omega
        clear hz
        rcases z with z | ⟨z1, z⟩ | ⟨z1, z2, z⟩ | ⟨z1, z2, z3, z⟩
        all_goals
          go_wp2_with fail
          go_meet
          exact ⟨by rw [HS.out, hsz.out], rfl⟩
      · have hsz := Lib.hid (show (size == 1 || size == 2 || size == 4 || size == 8) = false by simp; omega)
        have z : (size != 1) = true ∧ (size != 2) = true ∧ (size != 4) = true ∧ (size != 8) = true := by simp; omega
        obtain ⟨z1, z2, z3, z4⟩ := z
        clear hz
        go_wp2_with fail
        go_ret
        exact ⟨by first | rfl | (rw [HA.out hsz.out]; rfl), hKn⟩
    by_cases h3 : kind = 3
    · subst h3
      have hs : sizedB ⟨3, name, size, signed, too, count, mem⟩ = (decide (0 ≤ count) && decide (count ≤ 65536)) := rfl
      have hA := fun e => alone43 HK.out HCL.out (hs.trans e)
      have HS := Lib.hid hs
      have HA := Lib.hid hA
      clear hs hA h1
      by_cases z1 : count < 0
      · have hsz := Lib.hid (show (decide (0 ≤ count) && decide (count ≤ 65536)) = false by simp; omega)
        go_wp2_with fail
        go_ret
        exact ⟨by first | rfl | (rw [HA.out hsz.out]; rfl), hKn⟩
      by_cases z2 : 65536 < count
      · have hsz := Lib.hid (show (decide (0 ≤ count) && decide (count ≤ 65536)) = false by simp; omega)
        go_wp2_with fail
        go_ret
        exact ⟨by first | rfl | (rw [HA.out hsz.out]; rfl), hKn⟩
      have hsz := Lib.hid (show (decide (0 ≤ count) && decide (count ≤ 65536)) = true by simp; omega)
      go_wp2_with fail
      go_meet
      exact ⟨by rw [HS.out, hsz.out], rfl⟩
    by_cases h4 : kind = 4
    · subst h4
      have hs : sizedB ⟨4, name, size, signed, too, count, mem⟩ = (decide (0 ≤ size) && decide (size ≤ 65536)) := rfl
      have hA := fun e => alone43 HK.out HCL.out (hs.trans e)
      have HS := Lib.hid hs
      have HA := Lib.hid hA
      clear hs hA h1 h3
      by_cases z1 : size < 0
      · have hsz := Lib.hid (show (decide (0 ≤ size) && decide (size ≤ 65536)) = false by simp; omega)
        go_wp2_with fail
        go_ret
        exact ⟨by first | rfl | (rw [HA.out hsz.out]; rfl), hKn⟩
      by_cases z2 : 65536 < size
      · have hsz := Lib.hid (show (decide (0 ≤ size) && decide (size ≤ 65536)) = false by simp; omega)
        go_wp2_with fail
        go_ret
        exact ⟨by first | rfl | (rw [HA.out hsz.out]; rfl), hKn⟩
      have hsz := Lib.hid (show (decide (0 ≤ size) && decide (size ≤ 65536)) = true by simp; omega)
      go_wp2_with fail
      go_meet
      exact ⟨by rw [HS.out, hsz.out], rfl⟩
    have hs : sizedB ⟨kind, name, size, signed, too, count, mem⟩ = true := by
      unfold sizedB
      rw [if_neg h1, if_neg h3, if_neg h4]
    have HS := Lib.hid hs
    have e1 : (kind == 1) = false := by simpa using h1
    have e3 : (kind == 3) = false := by simpa using h3
    have e4 : (kind == 4) = false := by simpa using h4
    clear h1 h3 h4 hs
    go_wp2_with fail
    go_meet
    exact ⟨HS.out, rfl⟩
  case rest =>
  obtain ⟨hsz, rfl⟩ := hcut
  have HSZ := Lib.hid hsz
  clear hsz b0 hwb
  go_upto_block 3 with fail
  go_cut [8] (fun _ wx => membersB t = true ∧ Blk wx G 38 (tyVals t (.slice ma t.mem.length mc)) ∧ Kept (fun _ => False) w wx)
  case first =>
    as_aux_lemma =>
    go_wp2_with fail
    go_loopw [8] (fun iv wx => ∃ k : Nat, iv = .int .i64 k ∧ k ≤ t.mem.length ∧ (List.range k).all (memOk t.kind t.mem) = true ∧ Blk wx G 38 (tyVals t (.slice ma t.mem.length mc)) ∧ Kept (fun _ => False) w wx) (fun iv _ => t.mem.length - (intOf iv).toNat)
    case atStart => exact ⟨0, rfl, Nat.zero_le _, rfl, hBn, hKn⟩
    case round =>
      clear hBn hKn
      obtain ⟨k, rfl, hk, hall, hb, hK⟩ := hrel
      have b6 : wr.cell? ⟨G, 6, none⟩ = some (.slice ma t.mem.length mc) := hb.cell 6
      by_cases hlt : k < t.mem.length
      case neg =>
        obtain rfl : k = t.mem.length := by omega
        go_wp2_with fail
        go_meet
        exact ⟨hall, hb, hK⟩
      case pos =>
      obtain ⟨m, hmk⟩ : ∃ m, t.mem[k]? = some m := ⟨_, List.getElem?_eq_getElem hlt⟩
      have hmm := hm.kept hK
      obtain ⟨mg, mo, rfl, hmg, m0, m1, m2⟩ := hmm.at_ hmk
      have hmn := hml m (List.mem_of_getElem? hmk)
      have hOK := memOk_eq (kind := t.kind) hmk
      have hNX := members_next hall
      have hA := fun e => alone44m HK.out HCL.out HSZ.out (members_bad hlt (hOK.trans e))
      have b0 : wr.cell? ⟨G, 0, none⟩ = some (.int .i64 t.kind) := hb.cell 0
      have HM := Lib.hid hmk
      have HOK := Lib.hid hOK
      have HNX := Lib.hid hNX
      have HA := Lib.hid hA
      clear hmk hOK hNX hA hall m1 m2
      go_upto_region 26 with fail
      go_cut [150] (fun s wx => s = .bool (!mnB t.kind m) ∧ wr = wx)
      case first =>
        as_aux_lemma =>
        have hTE : (ByteArray.mk #[]).toList = [] := by rw [ByteArray.toList_eq]
        have hTL := nV_list m.name
        cases hnm : nameB m.name with
        | true =>
          go_wp2_with fail
          refine (refname_any m.name _ hmn).mono ?_
          rw [hnm]
          rintro e w2 ⟨rfl, rfl⟩
          go_wp2_with fail
          go_meet
          exact ⟨by simp [mnB, hnm], rfl⟩
        | false =>
          cases e6 : (t.kind == 6) with
          | false =>
            go_wp2_with fail
            refine (refname_any m.name _ hmn).mono ?_
            rw [hnm]
            rintro e w2 ⟨rfl, rfl⟩
            go_wp2_with fail
            go_meet
            exact ⟨by simp [mnB, hnm, e6], rfl⟩
          | true =>
            go_wp2_with fail
            refine (refname_any m.name _ hmn).mono ?_
            rw [hnm]
            rintro e w2 ⟨rfl, rfl⟩
            go_wp2_with fail
            go_meet
            exact ⟨by simp [mnB, hnm, e6]; try (cases m.name <;> rfl), rfl⟩
      case rest =>
      obtain ⟨rfl, rfl⟩ := hcut
      cases hmb : mnB t.kind m with
      | false =>
        have hA2 := HA.out (by rw [hmb]; rfl)
        go_wp2_with fail
        go_ret
        exact ⟨by first | rfl | (rw [hA2]; rfl), hK⟩
      | true =>
      have HMB := Lib.hid hmb
      clear hmb
      go_wp2_with fail
      go_loopw [10] (fun jv wx => ∃ j : Nat, jv = .int .i64 j ∧ j ≤ k ∧ mdOk t.mem j m = true ∧ wr = wx) (fun jv _ => k - (intOf jv).toNat)
      case atStart => exact ⟨0, rfl, Nat.zero_le _, by simp [mdOk], rfl⟩
      case round =>
        obtain ⟨j, rfl, hj, hmd, rfl⟩ := hrel
        by_cases hjk : j < k
        case neg =>
          obtain rfl : j = k := by omega
          go_wp2_with fail
          exact ⟨⟨j + 1, by go_num, by omega, by rw [HNX.out, HOK.out, HMB.out, hmd]; rfl, hb, hK⟩, by simp [intOf]; omega⟩
        case pos =>
          obtain ⟨x, hx⟩ : ∃ x, t.mem[j]? = some x := ⟨_, List.getElem?_eq_getElem (by omega)⟩
          obtain ⟨mg', mo', hme, hmg', x0, x1, x2⟩ := hmm.at_ hx
          simp only [Option.some.injEq, Addr.mk.injEq, and_true] at hme
          obtain ⟨rfl, rfl⟩ := hme
          have hnx := md_next hx hmd
          have hbd := fun h0 h1 => HA.out (by rw [md_bad hx hjk h0 h1]; simp)
          have HX := Lib.hid hx
          have HNX2 := Lib.hid hnx
          have HBD := Lib.hid hbd
          clear hx hmd hnx hbd x1 x2
          have hTE : (ByteArray.mk #[]).toList = [] := by rw [ByteArray.toList_eq]
          have hTL := nV_list m.name
          have hTX := nV_list x.name
          cases e0 : (m.name == []) with
          | true =>
            go_wp2_with fail
            exact ⟨⟨j + 1, by go_num, by omega, by rw [HNX2.out, e0]; rfl, trivial⟩, by simp [intOf]; omega⟩
          | false =>
            cases e1 : (x.name == m.name) with
            | false =>
              go_wp2_with fail
              exact ⟨⟨j + 1, by go_num, by omega, by rw [HNX2.out, e0, e1]; rfl, trivial⟩, by simp [intOf]; omega⟩
            | true =>
              have hA2 := HBD.out e0 e1
              go_wp2_with fail
              go_ret
              exact ⟨by first | rfl | (rw [hA2]; rfl), hK⟩
  case rest =>
  clear hBn hKn
  obtain ⟨hmem, hBn, hKn⟩ := hcut
  apply_assumption
  refine one_t3 l g o c i t w ma mc G wc h hf ht hm hgl HK HCL HSZ hmem hBn hKn

end Go.Proofs.YtmgdjiplpfeoiaaDoor

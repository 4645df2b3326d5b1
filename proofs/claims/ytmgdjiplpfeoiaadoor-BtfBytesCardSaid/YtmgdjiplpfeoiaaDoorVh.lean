import Derived.Test.YtmgdjiplpfeoiaaDoorVg
import Derived.Outline
import Derived.Deep.DeepCutAuto
import Derived.Deep.CutBlock
set_option linter.unusedSimpArgs false
set_option linter.unusedVariables false
namespace Go.Proofs.YtmgdjiplpfeoiaaDoor
open Go.RowKit

set_option maxHeartbeats 8000000 in
set_option maxRecDepth 100000 in
theorem refone_any (l : List Ty) (a : Option Addr) (c : Nat) (i : Nat) (t : Ty) (w : World) (h : Tys w (.slice a l.length c) l) (hf : Fit l) (ht : l[i]? = some t) :
    Calls Tryd.prog 60 #[.slice a l.length c, .int .i64 (i : Int)] w fun e w' => e = .returned (.int .i64 (aloneC l i t)) ∧ Kept (fun _ => False) w w' := by
  have hi := (List.getElem?_eq_some_iff.1 ht).1
  have htm := List.mem_of_getElem? ht
  have h256 := hf.len
  have hnl := hf.name t htm
  have hml := hf.mname t htm
  obtain ⟨g, o, mv, rfl, hgl, hm, c0, c1, c2, c3, c4, c5, c6⟩ := h.at_ ht
  obtain ⟨ma, mc, rfl⟩ := hm.any
  have hm64 := hf.mem t htm
  go_enter Tryd.func60, Tryd.ntmps60
  go_upto_region 2 with fail
  have hBn := Blk.new w 38 (tyVals t (.slice ma t.mem.length mc))
  have hKn := (Kept.refl (fun _ => False) w).alloc (.cells (tyVals t (.slice ma t.mem.length mc)) 38)
  obtain ⟨W1, hW1⟩ : ∃ W1, w.alloc (.cells (tyVals t (.slice ma t.mem.length mc)) 38) = W1 := ⟨_, rfl⟩
  rw [hW1] at hBn hKn
  obtain ⟨G, hG⟩ : ∃ G, w.heap.size = G := ⟨_, rfl⟩
  rw [hG] at hBn
  rw [show w.alloc (.cells #[.int .i64 t.kind, .string { data := t.name.toArray }, .int .i64 t.size, .bool t.signed, .int .i64 t.to, .int .i64 t.count, .slice ma t.mem.length mc] 38) = W1 from hW1, hG]
  clear hW1 hG c0 c1 c2 c3 c4 c5 c6
  have b0 : W1.cell? ⟨G, 0, none⟩ = some (.int .i64 t.kind) := hBn.cell 0
  have b1 : W1.cell? ⟨G, 1, none⟩ = some (nV t.name) := hBn.cell 1
  go_cut [6] (fun s6 wx => s6 = .bool (namedB t.kind) ∧ W1 = wx)
  case first =>
    as_aux_lemma =>
    cases e1 : (t.kind == 1)
    · cases e4 : (t.kind == 4)
      all_goals
        go_wp2_with fail
        go_meet
        exact ⟨by simp [namedB, e1, e4], rfl⟩
    · go_wp2_with fail
      go_meet
      exact ⟨by simp [namedB, e1], rfl⟩
  case rest =>
  obtain ⟨rfl, rfl⟩ := hcut
  go_upto_region 3 with fail
  go_cut [40] (fun s40 wx => s40 = .bool (decide (t.kind < 1) || decide (6 < t.kind)) ∧ W1 = wx)
  case first =>
    as_aux_lemma =>
    by_cases k1 : t.kind < 1
    · go_wp2_with fail
      go_meet
      exact ⟨by simp [k1], rfl⟩
    · by_cases k6 : 6 < t.kind
      all_goals
        go_wp2_with fail
        go_meet
        exact ⟨by simp [k1, k6], rfl⟩
  case rest =>
  obtain ⟨rfl, rfl⟩ := hcut
  by_cases hk : t.kind < 1 ∨ 6 < t.kind
  · have hA : aloneC l i t = 41 := by unfold aloneC; rw [if_pos hk]
    have hb : (decide (t.kind < 1) || decide (6 < t.kind)) = true := by simpa using hk
    rw [hb]
    go_wp2_with fail
    go_ret
    exact ⟨by first | rfl | (rw [hA]; rfl), hKn⟩
  have hb : (decide (t.kind < 1) || decide (6 < t.kind)) = false := by simp; omega
  rw [hb]
  clear hb
  have HK := Lib.hid hk
  clear hk
  go_upto_region 5 with fail
  go_cut [6, 56] (fun s6 s wx => s6 = .bool (namedB t.kind) ∧ s = .bool (nameBad t) ∧ W1 = wx)
  case first =>
    as_aux_lemma =>
    have hTE : (ByteArray.mk #[]).toList = [] := by rw [ByteArray.toList_eq]
    have hTL := nV_list t.name
    cases hn : namedB t.kind with
    | true =>
      cases hnm : nameB t.name
      all_goals
        go_wp2_with fail
        refine (refname_any t.name _ hnl).mono ?_
        rw [hnm]
        rintro e w2 ⟨rfl, rfl⟩
        go_wp2_with fail
        go_meet
        exact ⟨by rw [hn], by simp [nameBad, hn, hnm], rfl⟩
    | false =>
      go_wp2_with fail
      go_meet
      exact ⟨by rw [hn], by simp [nameBad, hn]; try (cases t.name <;> rfl), rfl⟩
  case rest =>
  obtain ⟨rfl, rfl, rfl⟩ := hcut
  cases hnb : nameBad t with
  | true =>
    have hA := alone44 HK.out (nameBad_called (l := l) (i := i) hnb)
    go_wp2_with fail
    go_ret
    exact ⟨by first | rfl | (rw [hA]; rfl), hKn⟩
  | false =>
  go_upto_block 0 with fail
  have HNB := Lib.hid hnb
  clear hnb b0 b1
  go_cut [6] (fun s6 wx => s6 = .bool (namedB t.kind) ∧ calledB l i t = true ∧ Blk wx G 38 (tyVals t (.slice ma t.mem.length mc)) ∧ Kept (fun _ => False) w wx)
  case first =>
    as_aux_lemma =>
    obtain ⟨nb, hn⟩ : ∃ nb, namedB t.kind = nb := ⟨_, rfl⟩
    rw [hn]
    go_wp2_with fail
    go_loopw [7] (fun iv wx => ∃ k : Nat, iv = .int .i64 k ∧ k ≤ i ∧ dupOk l k t = true ∧ Blk wx G 38 (tyVals t (.slice ma t.mem.length mc)) ∧ Kept (fun _ => False) w wx) (fun iv _ => i - (intOf iv).toNat)
    case atStart => exact ⟨0, rfl, Nat.zero_le _, rfl, hBn, hKn⟩
    case round =>
      clear hBn hKn
      obtain ⟨k, rfl, hk, hdup, hb, hK⟩ := hrel
      by_cases hlt : k < i
      case neg =>
        obtain rfl : k = i := by omega
        have hcl := called_ok HNB.out (fun _ => hdup)
        have HC := Lib.hid hcl
        clear hcl hdup
        cases nb
        all_goals
          go_wp2_with fail
          go_meet
          exact ⟨by rw [hn], HC.out, hb, hK⟩
      case pos =>
      cases nb with
      | false =>
        have hcl := called_ok (l := l) (i := i) HNB.out (fun h => absurd (hn.symm.trans h) (by simp))
        have HC := Lib.hid hcl
        clear hcl hdup
        go_wp2_with fail
        go_meet
        exact ⟨by rw [hn], HC.out, hb, hK⟩
      | true =>
        obtain ⟨u, hu⟩ : ∃ u, l[k]? = some u := ⟨_, List.getElem?_eq_getElem (by omega)⟩
        have hnx := dup_next hu hdup
        have hbd := fun h => dup_called (l := l) (i := i) hn (dup_bad (t := t) hu hlt h)
        have HN := Lib.hid hn
        have HBD := Lib.hid hbd
        have HNX := Lib.hid hnx
        have hu' := hu
        clear hdup hbd hnx hu hn
        obtain ⟨g', off', mv', hga, hg', hm', d0, d1, d2, d3, d4, d5, d6⟩ := (h.kept hK).at_ hu'
        simp only [Option.some.injEq, Addr.mk.injEq, and_true] at hga
        obtain ⟨rfl, rfl⟩ := hga
        obtain ⟨ma', mc', rfl⟩ := hm'.any
        have HU := Lib.hid hu'
        clear hu' d2 d3 d4 d5 d6
        have hk0 : wr.cell? ⟨G, 0, none⟩ = some (.int .i64 t.kind) := hb.cell 0
        have hk1 : wr.cell? ⟨G, 1, none⟩ = some (nV t.name) := hb.cell 1
        have hTU := nV_list u.name
        have hTL := nV_list t.name
        cases e1 : (u.kind == t.kind) with
        | false =>
          go_wp2_with fail
          refine wp_region_mix0 [.w, .w, .w, .w, .l, .w, .l, .w, .w, .w, .w, .w, .w, .l, .w, .l, .w, .w] (by kernel_rfl) (by kernel_rfl) ?_
          repeat (first
            | (refine mix_w1 ?_; go_big_quiet_step (fail); refine wpQuiet_nil ?_)
            | (refine mix_l1 rfl ?_; go_big_quiet_step (fail); refine wpQuiet_nil ?_))
          refine mix_nil ?_
          go_wp2_with fail
          exact ⟨⟨k + 1, by go_num, by omega, by rw [HNX.out, e1]; rfl, hb, hK.drew⟩, by simp [intOf]; omega⟩
        | true =>
          cases e2 : (u.name == t.name) with
          | false =>
            go_wp2_with fail
            refine wp_region_mix0 [.w, .w, .w, .w, .l, .w, .l, .w, .w, .w, .w, .w, .w, .l, .w, .l, .w, .w] (by kernel_rfl) (by kernel_rfl) ?_
            repeat (first
              | (refine mix_w1 ?_; go_big_quiet_step (fail); refine wpQuiet_nil ?_)
              | (refine mix_l1 rfl ?_; go_big_quiet_step (fail); refine wpQuiet_nil ?_))
            refine mix_nil ?_
            go_wp2_with fail
            exact ⟨⟨k + 1, by go_num, by omega, by rw [HNX.out, e1, e2]; rfl, hb, hK.drew⟩, by simp [intOf]; omega⟩
          | true =>
            have hA := alone44 HK.out (HBD.out (by rw [e1, e2]; rfl))
            have HA := Lib.hid hA
            clear hA
            go_wp2_with fail
            refine wp_region_mix0 [.w, .w, .w, .w, .l, .w, .l, .w, .w, .w, .w, .w, .w, .l, .w, .l, .w, .w] (by kernel_rfl) (by kernel_rfl) ?_
            repeat (first
              | (refine mix_w1 ?_; go_big_quiet_step (fail); refine wpQuiet_nil ?_)
              | (refine mix_l1 rfl ?_; go_big_quiet_step (fail); refine wpQuiet_nil ?_))
            refine mix_nil ?_
            go_wp2_with fail
            go_ret
            exact ⟨by first | rfl | (rw [HA.out]; rfl), hK.drew⟩
  case rest =>
  clear hBn hKn
  obtain ⟨rfl, hcl, hBn, hKn⟩ := hcut
  apply_assumption
  refine one_t2 l g o c i t w ma mc G wc h hf ht hm hgl HK hcl hBn hKn

end Go.Proofs.YtmgdjiplpfeoiaaDoor

import Derived.Test.YtahabogjfcdjkaaGreatDg
import Derived.Test.YtahabogjfcdjkaaGreatMg
set_option linter.unusedSimpArgs false
set_option linter.unusedVariables false
namespace Go.Proofs.YtahabogjfcdjkaaGreat
open Go.RowKit

/-! ### the document's map: Update, done -/
theorem run_lssS {P : Program} (t : TypeId) (a b : List UInt8) (w : World) : (binOp .lss t (sV a) (sV b)).run P w = .ok (.bool (decide (Lib.compareBytes a b < 0))) w := by
  unfold sV
  rw [binOp_string_lss]
  have : ∀ l : List UInt8, (ByteArray.mk l.toArray).toList = l := fun l => by rw [Lib.toList_data]
  rw [this, this, bytesLess_cb]
  rfl
theorem RMp.memory0 {w w' : World} {x : RLoc} {S : MS} {L L' : List Rg} (h : RMp w x S L) {F : Nat → Prop} (hk : Kept F w w') (hF : ∀ k, F k → k ∈ blM x.mp x.v L) (hm : RMem w' x.mp x.v L') (hb : blM x.mp x.v L' = blM x.mp x.v L) (hl : ∀ (i : Nat) (r : Rg), L[i]? = some r → ∃ r', L'[i]? = some r' ∧ r'.b.length = r.b.length) : RMp w' x S L' :=
  h.memory (v' := x.v) (hk.mono (fun k _ e => hF k e)) hm (fun k hk => .inl (by rw [← hb]; exact hk)) hl
theorem set_over {L : List Rg} {i : Nat} {r : Rg} (hi : L[i]? = some r) (b : List UInt8) (hb : b.length = r.b.length) : ∀ (j : Nat) (s : Rg), L[j]? = some s → ∃ r', (L.set i { r with b := b })[j]? = some r' ∧ r'.b.length = s.b.length := fun j s hj => by
  by_cases e : i = j
  · subst e
    have hil : i < L.length := (List.getElem?_eq_some_iff.1 hj).1
    have : s = r := by rw [hj] at hi; exact Option.some.inj hi
    subst this
    exact ⟨_, by rw [List.getElem?_set_self hil], hb⟩
  · exact ⟨s, by rw [List.getElem?_set_ne e]; exact hj, rfl⟩
theorem bv_in {p : Nat} {v : Value} {L : List Rg} {i : Nat} {r : Rg} (hi : L[i]? = some r) : ∀ k, r.bv.ownBlock = some k → k ∈ blM p v L := fun k hk => by
  unfold blM
  exact List.mem_cons_of_mem _ (List.mem_append_right _ (List.mem_flatMap.2 ⟨r, List.mem_of_getElem? hi, List.mem_cons_of_mem _ (mem_ob.2 hk)⟩))
set_option maxHeartbeats 4000000 in
set_option maxRecDepth 100000 in
theorem rupdate_old (x : RLoc) (S : MS) (L : List Rg) (kv bv : Value) (k l : List UInt8) (flags : Int) (w : World) (h : RMp w x S L) (hk : By w kv k) (hbv : By w bv l) (ha : asksC S.d k.length = 0) (hl : (l.length : Int) = S.d.value) (hf0 : 0 ≤ flags)
    {i : Nat} {r : Rg} (hlk0 : lookS S.ent k = some ((i : Int) + 1)) (hi : L[i]? = some r) (hrl : r.b.length = l.length) (hr : refC S true flags = 0) (hh : hidN S.d.timer ≤ l.length) (hpos : 0 < l.length) :
    Calls Tryz.prog 23 #[.pointer (some ⟨x.q, 0, none⟩), kv, bv, .int .u64 flags] w fun e w' => e = .returned (.int .i64 0) ∧
      RMp w' x S (L.set i { r with b := r.b.take (hidN S.d.timer) ++ l.drop (hidN S.d.timer) }) ∧ blM x.mp x.v (L.set i { r with b := r.b.take (hidN S.d.timer) ++ l.drop (hidN S.d.timer) }) = blM x.mp x.v L ∧ Kept (fun k => k ∈ blM x.mp x.v L) w w' := by
  obtain ⟨A, c, rfl⟩ := hk.any
  have hA := rasked_len x S L A k.length c w h
  rw [ha] at hA
  have HA := Lib.hid hA
  have HAT := Lib.hid (rat_any x S L _ k w h hk)
  have HH := Lib.hid h
  have hb0 := h.blk.cell
  simp only [MS.rcells] at hb0
  have hlb : ((l.length : Int) != S.d.value) = false := by simpa using hl
  have hfew := h.few
  have HLK := Lib.hid hlk0
  have hff : flags ≤ 2 ∧ flags ≠ 1 := by
    unfold refC at hr
    by_cases h1 : 2 < flags
    · rw [if_pos h1] at hr; exact absurd hr (by decide)
    · rw [if_neg h1] at hr
      by_cases h2 : flags = 1
      · rw [if_pos ⟨rfl, h2⟩] at hr; exact absurd hr (by decide)
      · exact ⟨by omega, h2⟩
  have f3 : decide (flags > 2) = false := decide_eq_false (by omega)
  have f3' : decide ((2 : Int) < flags) = false := decide_eq_false (by omega)
  have f1 : (flags == 1) = false := beq_eq_false_iff_ne.2 (by omega)
  have HI := Lib.hid hi
  have HRL := Lib.hid hrl
  obtain ⟨dv, hsl, hdv⟩ := byDrop hbv hh hpos
  have HDV := Lib.hid hdv
  obtain ⟨A2, c2, rfl⟩ := hbv.any
  have HHH := Lib.hid hh
  clear hA ha h hk hbv hl hlk0 hr hff hi hrl hdv hh
  cases ht : S.d.timer
  case false =>
    have hsl0 : ∀ w' : World, (Instr.sliceAt 39 (.slice A2 l.length c2) (some (.int .i64 0)) none none).run Tryz.prog w' = .ok dv w' := fun w' => by have := hsl w'; rw [ht] at this; exact this
    have hdv := HDV.out
    have hhh := HHH.out
    rw [ht] at hb0 hdv hhh
    clear hsl
    cases e1 : (S.d.kind == 1)
    all_goals
      go_enter Tryz.func23, Tryz.ntmps23
      go_wp2_with (go_at_call 55; refine HA.out.mono ?_; rintro e w1 ⟨rfl, rfl⟩)
      refine HAT.out.mono ?_
      rintro e w2 ⟨a, rfl, hF, hk2⟩
      have hM := HH.out.quiet hk2
      have hb := hM.blk.cell
      simp only [MS.rcells] at hb
      rw [ht] at hb
      rcases hF with ⟨rfl, hs⟩ | ⟨j, y, rfl, hj, hyk, hs, -⟩
      case inl => exact absurd (HLK.out.symm.trans hs) (by simp)
      have hyi : y.2 = (i : Int) + 1 := Option.some.inj (hs.symm.trans HLK.out)
      obtain ⟨g, cap, hv, hcap, hgl⟩ := Sg.some_ hM.ent (by rw [List.length_map]; have := (List.getElem?_eq_some_iff.1 hj).1; omega)
      rw [List.length_map] at hv
      obtain ⟨e0, e1'⟩ := hM.eCell hv hj
      rw [hyi] at e1'
      have hjl := (List.getElem?_eq_some_iff.1 hj).1
      have hjd : decide ((j : Int) < 0) = false := decide_eq_false (by omega)
      have hjd' : decide ((j : Int) ≥ 0) = true := decide_eq_true (by omega)
      have hjd2 : decide ((0 : Int) ≤ j) = true := decide_eq_true (by omega)
      rw [hv] at hb
      have HM := Lib.hid hM
      have HK2 := Lib.hid hk2
      clear hM hv hs hyk hj hyi e0 hk2
      go_wp2_with fail
      refine wp_region_mix0 [.w, .w, .w, .w, .w, .w, .l, .w, .w, .w, .w, .w, .l, .w, .w, .w] (by kernel_rfl) (by kernel_rfl) ?_
      repeat (first
        | (refine mix_w1 ?_; go_big_quiet_step (fail); refine wpQuiet_nil ?_)
        | (refine mix_l1 rfl ?_; go_big_quiet_step (fail); refine wpQuiet_nil ?_))
      refine mix_nil ?_
      go_wp2_with fail
      refine wp_region_mix0 [.w, .w, .w, .l, .w, .w, .w, .w, .w, .t] (by kernel_rfl) (by kernel_rfl) ?_
      repeat (first
        | (refine mix_w1 ?_; go_big_quiet_step (fail); refine wpQuiet_nil ?_)
        | (refine mix_l1 rfl ?_; go_big_quiet_step (fail); refine wpQuiet_nil ?_))
      have hMd := HM.out.drew.drew
      have hle2 : 0 + (l.drop 0).length ≤ r.b.length := by have := HRL.out; have : 0 ≤ l.length := hhh; rw [List.length_drop]; omega
      have hbe : r.b.take 0 ++ l.drop 0 ++ r.b.drop (0 + (l.drop 0).length) = r.b.take 0 ++ l.drop 0 := by
        have hd : r.b.drop (0 + (l.drop 0).length) = [] := List.drop_of_length_le (by have := HRL.out; simp; omega)
        rw [hd, List.append_nil]
      have hdv2 : By w2.drew.drew dv (l.drop 0) := ((hdv.kept HK2.out (fun _ _ h => h)).drew).drew
      have hset := rset_in x.mp x.v L i 0 dv (l.drop 0) _ hMd.mem HI.out hdv2 hle2 (by rw [HRL.out]; exact hpos)
      rw [hbe] at hset
      have HSET := Lib.hid hset
      clear hset hbe hle2 hMd hdv2
      refine mix_t fun Q' hQ' => ?_
      go_wp2_with fail
      refine HSET.out.mono ?_
      rintro e w4 ⟨rfl, hM4, hB4, hk4⟩
      have h4 := HM.out.drew.drew.memory0 hk4 (bv_in HI.out) hM4 hB4 (set_over HI.out _ (by have := HRL.out; have : 0 ≤ l.length := hhh; simp; omega))
      have hkf : Kept (fun k => k ∈ blM x.mp x.v L) w w4 := Kept.trans (((HK2.out.mono (fun _ _ e => e.elim)).drew).drew) (hk4.mono (fun k _ e => bv_in HI.out k e)) (fun _ _ h => h)
      go_wp2_with fail
      refine mix_nil ?_
      go_wp2_with fail
      go_ret
      exact ⟨rfl, h4, hB4, hkf⟩
  case true =>
    have hsl0 : ∀ w' : World, (Instr.sliceAt 39 (.slice A2 l.length c2) (some (.int .i64 16)) none none).run Tryz.prog w' = .ok dv w' := fun w' => by have := hsl w'; rw [ht] at this; exact this
    have hdv := HDV.out
    have hhh := HHH.out
    rw [ht] at hb0 hdv hhh
    clear hsl
    cases e1 : (S.d.kind == 1)
    all_goals
      go_enter Tryz.func23, Tryz.ntmps23
      go_wp2_with (go_at_call 55; refine HA.out.mono ?_; rintro e w1 ⟨rfl, rfl⟩)
      refine HAT.out.mono ?_
      rintro e w2 ⟨a, rfl, hF, hk2⟩
      have hM := HH.out.quiet hk2
      have hb := hM.blk.cell
      simp only [MS.rcells] at hb
      rw [ht] at hb
      rcases hF with ⟨rfl, hs⟩ | ⟨j, y, rfl, hj, hyk, hs, -⟩
      case inl => exact absurd (HLK.out.symm.trans hs) (by simp)
      have hyi : y.2 = (i : Int) + 1 := Option.some.inj (hs.symm.trans HLK.out)
      obtain ⟨g, cap, hv, hcap, hgl⟩ := Sg.some_ hM.ent (by rw [List.length_map]; have := (List.getElem?_eq_some_iff.1 hj).1; omega)
      rw [List.length_map] at hv
      obtain ⟨e0, e1'⟩ := hM.eCell hv hj
      rw [hyi] at e1'
      have hjl := (List.getElem?_eq_some_iff.1 hj).1
      have hjd : decide ((j : Int) < 0) = false := decide_eq_false (by omega)
      have hjd' : decide ((j : Int) ≥ 0) = true := decide_eq_true (by omega)
      have hjd2 : decide ((0 : Int) ≤ j) = true := decide_eq_true (by omega)
      rw [hv] at hb
      have HM := Lib.hid hM
      have HK2 := Lib.hid hk2
      clear hM hv hs hyk hj hyi e0 hk2
      go_wp2_with fail
      refine wp_region_mix0 [.w, .w, .w, .w, .w, .w, .l, .w, .w, .w, .w, .w, .l, .w, .w, .w] (by kernel_rfl) (by kernel_rfl) ?_
      repeat (first
        | (refine mix_w1 ?_; go_big_quiet_step (fail); refine wpQuiet_nil ?_)
        | (refine mix_l1 rfl ?_; go_big_quiet_step (fail); refine wpQuiet_nil ?_))
      refine mix_nil ?_
      go_wp2_with fail
      refine wp_region_mix0 [.w, .w, .w, .l, .w, .w, .w, .w, .w, .t] (by kernel_rfl) (by kernel_rfl) ?_
      repeat (first
        | (refine mix_w1 ?_; go_big_quiet_step (fail); refine wpQuiet_nil ?_)
        | (refine mix_l1 rfl ?_; go_big_quiet_step (fail); refine wpQuiet_nil ?_))
      have hMd := HM.out.drew.drew
      have hle2 : 16 + (l.drop 16).length ≤ r.b.length := by have := HRL.out; have : 16 ≤ l.length := hhh; rw [List.length_drop]; omega
      have hbe : r.b.take 16 ++ l.drop 16 ++ r.b.drop (16 + (l.drop 16).length) = r.b.take 16 ++ l.drop 16 := by
        have hd : r.b.drop (16 + (l.drop 16).length) = [] := List.drop_of_length_le (by have := HRL.out; simp; omega)
        rw [hd, List.append_nil]
      have hdv2 : By w2.drew.drew dv (l.drop 16) := ((hdv.kept HK2.out (fun _ _ h => h)).drew).drew
      have hset := rset_in x.mp x.v L i 16 dv (l.drop 16) _ hMd.mem HI.out hdv2 hle2 (by rw [HRL.out]; exact hpos)
      rw [hbe] at hset
      have HSET := Lib.hid hset
      clear hset hbe hle2 hMd hdv2
      refine mix_t fun Q' hQ' => ?_
      go_wp2_with fail
      refine HSET.out.mono ?_
      rintro e w4 ⟨rfl, hM4, hB4, hk4⟩
      have h4 := HM.out.drew.drew.memory0 hk4 (bv_in HI.out) hM4 hB4 (set_over HI.out _ (by have := HRL.out; have : 16 ≤ l.length := hhh; simp; omega))
      have hkf : Kept (fun k => k ∈ blM x.mp x.v L) w w4 := Kept.trans (((HK2.out.mono (fun _ _ e => e.elim)).drew).drew) (hk4.mono (fun k _ e => bv_in HI.out k e)) (fun _ _ h => h)
      go_wp2_with fail
      refine mix_nil ?_
      go_wp2_with fail
      go_ret
      exact ⟨rfl, h4, hB4, hkf⟩

end Go.Proofs.YtahabogjfcdjkaaGreat

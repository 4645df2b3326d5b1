import Derived.Test.YtmgdjiplpfeoiaaDoorYj
import Derived.Test.YtmgdjiplpfeoiaaDoorTx
import Derived.Outline
import Derived.Deep.DeepCutAuto
import Derived.Deep.CutBlock
set_option linter.unusedSimpArgs false
set_option linter.unusedVariables false
namespace Go.Proofs.YtmgdjiplpfeoiaaDoor
open Go.RowKit

/-! ### a list of types that is being read -/
def TM (w : World) (B : Nat) (lv : Value) (l : List Ty) : Prop := ∃ mvs : List Value, mvs.length = l.length ∧ Sg w 38 7 lv (List.zipWith rowV l mvs) ∧ (∀ g, lv.ownBlock = some g → B ≤ g) ∧
  ∀ (i : Nat) (t : Ty) (v : Value), l[i]? = some t → mvs[i]? = some v → MbsApart w lv v t ∧ ∀ g, v.ownBlock = some g → B ≤ g
section
variable {w w' : World} {B : Nat} {lv : Value} {l : List Ty}
theorem TM.nil (w : World) (B : Nat) : TM w B (.slice none 0 0) [] := ⟨[], rfl, Sg.nil _ _ _, fun g hg => by simp [Value.ownBlock] at hg, fun i t v h => by simp at h⟩
theorem TM.tl (h : TM w B lv l) : TL w B lv l := by
  obtain ⟨mvs, h1, h2, h3, h4⟩ := h
  exact ⟨mvs, h1, h2, h3, fun i t v a b => (h4 i t v a b).1⟩
theorem TM.any (h : TM w B lv l) : ∃ A cap, lv = .slice A l.length cap := h.tl.any
theorem TM.tys (h : TM w B lv l) : Tys w lv l := h.tl.tys
theorem TM.lt (h : TM w B lv l) : ∀ g, lv.ownBlock = some g → g < w.heap.size := by
  obtain ⟨_, _, hS, _⟩ := h
  exact hS.lt
theorem TM.own (h : TM w B lv l) : ∀ g, lv.ownBlock = some g → B ≤ g := by
  obtain ⟨_, _, _, h3, _⟩ := h
  exact h3
theorem TM.kept {F : Nat → Prop} (h : TM w B lv l) (hk : Kept F w w') (hF : ∀ k, B ≤ k → ¬ F k) : TM w' B lv l := by
  obtain ⟨mvs, hl, hS, hB, hm⟩ := h
  refine ⟨mvs, hl, hS.kept hk (fun g hg => hF g (hB g hg)), hB, fun i t v ht hv => ?_⟩
  obtain ⟨⟨h1, h2⟩, h3⟩ := hm i t v ht hv
  exact ⟨⟨h1.keptF hk (fun g hg => hF g (h3 g hg)), fun g hg => ⟨Nat.lt_of_lt_of_le (h2 g hg).1 hk.size, (h2 g hg).2⟩⟩, h3⟩
end
section
variable {ops : Array Oper} {rest : List Oper} {o : Oper} {a : Act} {Q : Exit → Act → World → Prop}
/-- 'l = append(l, t)', behind the making of t's own row -/
theorem wpList_pushTM {w : World} (hgd : o.guard = none) (s x : Operand) (ho : o.op = .call { callee := .builtin .append, args := #[s, x], argTypes := #[22, 22] })
    (B : Nat) (lv : Value) (l : List Ty) (t : Ty) (v : Value) (cs : Array Value) (hcs : cs = tyVals t v) (hs : a.eval s = lv) (hx : a.eval x = .slice (some ⟨w.heap.size, 0, none⟩) 1 1)
    (h : TM w B lv l) (hm : MbsApart w lv v t) (hmB : ∀ g, v.ownBlock = some g → B ≤ g) (hv : v.oneCell' = true) (hlen : l.length < 1073741824) (hB : B ≤ w.heap.size)
    (hK : ∀ lv' w', TM w' B lv' (l ++ [t]) → Kept (fun k => lv.ownBlock = some k) w w' → wpList Tryd.prog ops Q rest (a.put o.dst lv') w') :
    wpList Tryd.prog ops Q (o :: rest) a (w.alloc (.cells cs 38)) := by
  subst hcs
  obtain ⟨i0, hI0, hI1, hI2, hI3⟩ := info_parts infoT
  obtain ⟨mvs, hl, hS, hBl, hms⟩ := h
  have e : (List.zipWith rowV l mvs).length = l.length := by simp [hl]
  refine wpList_pushG (w := w) hgd s x 22 ho Tryd.underlying22 hI0 hI1 hI2 hI3 rfl (by omega) lv (List.zipWith rowV l mvs) (rowV t v) hs hx hS rfl (rowV_one t v hv) (by rw [e]; exact hlen) (by omega) ?_
  intro g cap w' hS' hk hg
  rw [e] at hS' ⊢
  refine hK _ w' ⟨mvs ++ [v], by simp [hl], ?_, ?_, ?_⟩ hk
  · rw [List.zipWith_append (by omega)]
    exact hS'
  · intro g' hg'
    simp only [Value.ownBlock, Option.some.injEq] at hg'
    subst hg'
    rcases hg with hg | hg
    · exact hBl _ hg
    · omega
  · intro i t' v' ht hv'
    have hap : MbsApart w lv v' t' ∧ ∀ g, v'.ownBlock = some g → B ≤ g := by
      by_cases hi : i < l.length
      · rw [List.getElem?_append_left hi] at ht
        rw [List.getElem?_append_left (by omega)] at hv'
        exact hms i t' v' ht hv'
      · have hi2 := (List.getElem?_eq_some_iff.1 ht).1
        simp at hi2
        have : i = l.length := by omega
        subst this
        rw [List.getElem?_append_right (by omega)] at ht
        rw [List.getElem?_append_right (by omega), hl] at hv'
        simp at ht hv'
        subst ht hv'
        exact ⟨hm, hmB⟩
    obtain ⟨⟨h1, h2⟩, h3⟩ := hap
    refine ⟨⟨h1.keptF hk (fun g' hg' h => (h2 g' hg').2 h), fun g' hg' => ⟨Nat.lt_of_lt_of_le (h2 g' hg').1 hk.size, ?_⟩⟩, h3⟩
    intro h4
    simp only [Value.ownBlock, Option.some.injEq] at h4
    subst h4
    obtain ⟨h5, h6⟩ := h2 _ hg'
    rcases hg with hg | hg
    · exact h6 hg
    · omega
end

theorem Tys.none (w : World) : Tys w (.slice none 0 0) [] := ⟨Option.none, 0, rfl, Nat.le_refl _, fun i t h => by simp at h⟩
/-! ### what is read may be looked at -/
theorem memsR_raw (L : Lim) (b : List UInt8) (hL : L.bits ≤ 2147483647) : ∀ n s, ∀ m ∈ (memsR L b n s).1, m.name.length < 256 ∧ -9223372036854775808 ≤ m.bits ∧ m.bits ≤ 9223372036854775807
  | 0, s, m, h => by simp [memsR] at h
  | n + 1, s, m, h => by
    unfold memsR at h
    split at h
    · cases h
    · rcases List.mem_cons.1 h with rfl | h
      · refine ⟨mbR_name L b s, ?_, ?_⟩
        · simp only [mbR]; omega
        · have := numR_le L.bits b (numR L.type b (nmR b s).2).2
          simp only [mbR]
          omega
      · exact memsR_raw L b hL n _ m h
theorem typsR_raw (L : Lim) (b : List UInt8) (hL : L.bits ≤ 2147483647) : ∀ n s, ∀ t ∈ (typsR L b n s).1, t.name.length < 256 ∧ ∀ m ∈ t.mem, m.name.length < 256 ∧ -9223372036854775808 ≤ m.bits ∧ m.bits ≤ 9223372036854775807
  | 0, s, t, h => by simp [typsR] at h
  | n + 1, s, t, h => by
    unfold typsR at h
    split at h
    · cases h
    · rcases List.mem_cons.1 h with rfl | h
      · exact ⟨nmR_len b _, fun m hm => memsR_raw L b hL _ _ m hm⟩
      · exact typsR_raw L b hL n _ t h
theorem raw_of {l : List Ty} (h1 : l.length ≤ 1000) (h : ∀ t ∈ l, t.name.length < 256 ∧ ∀ m ∈ t.mem, m.name.length < 256 ∧ -9223372036854775808 ≤ m.bits ∧ m.bits ≤ 9223372036854775807) : Raw l :=
  ⟨by unfold maxLen; omega, fun t ht => by have := (h t ht).1; unfold maxLen; omega, fun t ht m hm => by have := ((h t ht).2 m hm).1; unfold maxLen; omega, fun t ht m hm => ((h t ht).2 m hm).2⟩
noncomputable def decB (b : List UInt8) : List Ty × Nat × Int := if (rawR limB b).2.2 = true ∨ (checkL (rawR limB b).1).2 ≠ 0 then ([], 0, 40) else ((rawR limB b).1, (rawR limB b).2.1, 0)
noncomputable def decR (b : List UInt8) : List Ty × Nat × Int := if (rawR limR b).2.2 = true ∨ (checkL (rawR limR b).1).2 ≠ 0 ∨ (cntR limR b).1 ≠ (rawR limR b).1.length then ([], 0, 40) else ((rawR limR b).1, (rawR limR b).2.1, 0)

set_option maxHeartbeats 8000000 in
set_option maxRecDepth 100000 in
theorem decode_any (bv : Value) (b : List UInt8) (w : World) (hb : By w bv b) (hl : b.length ≤ 1000000) :
    Calls Tryd.prog 19 #[bv] w fun e w' => ∃ lv, e = .returned (.tuple #[lv, .int .i64 (decB b).2.1, .int .i64 (decB b).2.2]) ∧ Tys w' lv (decB b).1 ∧ Kept (fun _ => False) w w' := by
  obtain ⟨D, hD⟩ : ∃ D, decB b = D := ⟨_, rfl⟩
  rw [hD]
  unfold decB at hD
  have hRW : rawR limB b = typsR limB b (min (numR 256 b (0, false)).1 256) (numR 256 b (0, false)).2 := rfl
  generalize rawR limB b = RW at *
  obtain ⟨g, hg⟩ : ∃ g, w.heap.size = g := ⟨_, rfl⟩
  have hR0 : RD 79 (w.alloc (.cells #[bv, .int .i64 0, .bool false] 79)) g bv b (0, false) := by
    subst hg
    exact ⟨Blk.new w _ _, hb.alloc _, fun k hk => by have := hb.lt k hk; omega, Nat.zero_le _, hl⟩
  have hK0 : Kept (fun _ => False) w (w.alloc (.cells #[bv, .int .i64 0, .bool false] 79)) := (Kept.refl _ w).alloc _
  have hc := Lib.hid (fun W hW => rnumber_any g bv b (0, false) 256 W hW (by omega))
  have hn256 := numR_le 256 b (0, false)
  generalize numR 256 b (0, false) = r at *
  obtain ⟨N, s0⟩ := r
  simp only at hRW hn256
  rw [Nat.min_eq_left hn256] at hRW
  have HD := Lib.hid hD
  have HRW := Lib.hid hRW
  clear hD hRW
  obtain ⟨A, c, rfl⟩ := hb.any
  go_enter Tryd.func19, Tryd.ntmps19
  go_wp2_with fail
  refine (hc.out _ hR0).mono ?_
  rintro e w1 ⟨rfl, hR1, hk1⟩
  have hK1 : Kept (fun _ => False) w w1 := hK0.trans hk1 (fun k hkl e => by omega)
  have hg1 : g < w1.heap.size := hR1.blk.lt
  clear hR0 hK0 hk1 hc
  go_wp2_with fail
  go_loopw [7, 6] (fun nv lv wr => ∃ (m : Nat) (s' : St) (acc : List Ty), nv = .int .i64 m ∧ acc.length + m ≤ 256 ∧ typsR limB b N s0 = (acc ++ (typsR limB b m s').1, (typsR limB b m s').2) ∧
    RD 79 wr g (.slice A b.length c) b s' ∧ TM wr (g + 1) lv acc ∧ Kept (fun _ => False) w wr) (fun nv _ _ => (intOf nv).toNat)
  case atStart => exact ⟨N, s0, [], rfl, by simpa using hn256, by simp, hR1, TM.nil _ _, hK1⟩
  case round =>
    clear hR1 hK1 hg1
    obtain ⟨m, s', acc, rfl, hacc, hms, hR, hM, hK⟩ := hrel
    have hbg := hR.blk
    have q2 := hbg.cell 2
    have hgl := hbg.lt
    by_cases hgo : 0 < m ∧ s'.2 = false
    case neg =>
      have hend : typsR limB b m s' = ([], s') := by
        cases m with
        | zero => rfl
        | succ m =>
          unfold typsR
          rw [if_pos (by
            cases e : s'.2
            · exact absurd ⟨Nat.succ_pos _, e⟩ hgo
            · rfl)]
      rw [hend] at hms
      have hRR : RW = (acc, s') := by
        rw [HRW.out, hms]
        simp
      have hDD := HD.out
      rw [hRR] at hDD
      simp only at hDD
      have hdec : 0 < m → s'.2 = true := fun h => by
        cases e : s'.2
        · exact absurd ⟨h, e⟩ hgo
        · rfl
      have hraw : Raw acc := by
        refine raw_of (by omega) ?_
        have := typsR_raw limB b (by decide) N s0
        rw [← HRW.out, hRR] at this
        exact this
      have HDD := Lib.hid hDD
      clear hend hms hRR HRW HD hgo hDD
      obtain ⟨at', bad'⟩ := s'
      have q1 := hbg.cell 1
      simp only at hdec q2 q1 HDD
      obtain ⟨lA, lc, rfl⟩ := hM.any
      have hCH := Lib.hid (check_any acc lA lc wr hM.tys hraw)
      have hT := hM.tys
      clear hM hraw
      cases bad' with
      | true =>
        have hDf : D = ([], 0, 40) := by rw [← HDD.out, if_pos (.inl rfl)]
        have HDF := Lib.hid hDf
        clear hDf HDD
        generalize (checkL acc).1 = x1 at *
        generalize (checkL acc).2 = x2 at *
        rcases Nat.eq_zero_or_pos m with hm0 | hm0
        all_goals
          try subst hm0
          clear hdec
          go_wp2_with fail
          refine hCH.out.mono ?_
          rintro e w2 ⟨rfl, hk2⟩
          have q2b := (hk2.cell (p := ⟨g, 2, none⟩) hgl (fun h => h)).trans q2
          go_wp2_with fail
          go_ret3
          rw [HDF.out]
          exact ⟨_, rfl, Tys.none _, hK.trans hk2 (fun _ _ h => h)⟩
      | false =>
        have hm0 : m = 0 := by
          rcases Nat.eq_zero_or_pos m with h | h
          · exact h
          · have := hdec h; cases this
        subst hm0
        clear hdec
        by_cases h0 : (checkL acc).2 = 0
        · have hDf : D = (acc, at', 0) := by rw [← HDD.out, if_neg (by simp [h0])]
          have HDF := Lib.hid hDf
          rw [h0] at hCH
          clear hDf HDD h0
          generalize (checkL acc).1 = x1 at *
          go_wp2_with fail
          refine hCH.out.mono ?_
          rintro e w2 ⟨rfl, hk2⟩
          have q2b := (hk2.cell (p := ⟨g, 2, none⟩) hgl (fun h => h)).trans q2
          have q1b := (hk2.cell (p := ⟨g, 1, none⟩) hgl (fun h => h)).trans q1
          go_wp2_with fail
          refine wp_region_mix0 [.w, .w, .w, .w, .l, .w, .w, .w] (by kernel_rfl) (by kernel_rfl) ?_
          repeat (first
            | (refine mix_w1 ?_; go_big_quiet_step (fail); refine wpQuiet_nil ?_)
            | (refine mix_l1 rfl ?_; go_big_quiet_step (fail); refine wpQuiet_nil ?_))
          refine mix_done ?_
          go_wp2_with fail
          go_ret3
          rw [HDF.out]
          exact ⟨_, rfl, (hT.kept hk2).kept (Kept.refl _ w2).drew, (hK.trans hk2 (fun _ _ h => h)).drew⟩
        · have hDf : D = ([], 0, 40) := by rw [← HDD.out, if_pos (.inr h0)]
          have HDF := Lib.hid hDf
          clear hDf HDD
          generalize (checkL acc).1 = x1 at *
          generalize (checkL acc).2 = x2 at *
          have he2 : (x2 != 0) = true := by simpa using h0
          have he : (x2 == 0) = false := by simpa using h0
          clear h0
          go_wp2_with fail
          refine hCH.out.mono ?_
          rintro e w2 ⟨rfl, hk2⟩
          have q2b := (hk2.cell (p := ⟨g, 2, none⟩) hgl (fun h => h)).trans q2
          go_wp2_with fail
          go_ret3
          rw [HDF.out]
          exact ⟨_, rfl, Tys.none _, hK.trans hk2 (fun _ _ h => h)⟩
    case pos =>
      obtain ⟨m, rfl⟩ : ∃ m', m = m' + 1 := ⟨m - 1, by omega⟩
      obtain ⟨at', bad'⟩ := s'
      obtain rfl : bad' = false := hgo.2
      have hnx : typsR limB b (m + 1) (at', false) = ((typR limB b (at', false)).1 :: (typsR limB b m (typR limB b (at', false)).2).1, (typsR limB b m (typR limB b (at', false)).2).2) := by
        rw [typsR]
        simp
      rw [hnx] at hms
      clear hnx hgo HD HRW
      have e1 := Lib.hid (typed_any g _ b (at', false) wr hR)
      generalize typR limB b (at', false) = x1 at *
      obtain ⟨t, s2⟩ := x1
      simp only at hms e1
      have hms2 : typsR limB b N s0 = ((acc ++ [t]) ++ (typsR limB b m s2).1, (typsR limB b m s2).2) := by rw [hms]; simp
      have HMS := Lib.hid hms2
      clear hms hms2
      simp only at q2
      obtain ⟨lA, lc, rfl⟩ := hM.any
      go_wp2_with fail
      refine e1.out.mono ?_
      rintro e w2 ⟨mv, rfl, hml, hR2, hk2⟩
      have hM2 := hM.kept hk2 (fun k hk e => by omega)
      have hK2 := hK.trans hk2 (fun k hkl e => by omega)
      obtain ⟨mA, mc, rfl⟩ := hml.any
      have hap : MbsApart w2 (.slice lA acc.length lc) (.slice mA t.mem.length mc) t := ⟨hml.mbs, fun k hk => ⟨hml.lt k hk, fun e => by
        have h1 := hml.2 k hk
        have h2 := hM.lt k e
        omega⟩⟩
      have hmB : ∀ k, (Value.slice mA t.mem.length mc).ownBlock = some k → g + 1 ≤ k := fun k hk => by
        have := hml.2 k hk
        omega
      have hg2 : g < w2.heap.size := hR2.blk.lt
      go_wp2_with (at_builtin; refine wpList_pushTM (w := w2) rfl (.tmp 26) (.tmp 29) rfl (g + 1) _ acc t (.slice mA t.mem.length mc) _ rfl rfl rfl hM2 hap hmB rfl (by omega) (by omega) ?_; intro v5 w5 hM5 hk5)
      have hR5 := hR2.kept hk5 (fun e => by have := hM.own g e; omega) (fun k hk e => by have h1 := hb.lt k hk; have h2 := hM.own k e; omega)
      have hK5 := hK2.trans hk5 (fun k hkl e => by have := hM.own k e; omega)
      exact ⟨⟨m, s2, _, rfl, by rw [List.length_append]; simp; omega, HMS.out, hR5, hM5, hK5⟩, by simp [intOf]⟩

end Go.Proofs.YtmgdjiplpfeoiaaDoor

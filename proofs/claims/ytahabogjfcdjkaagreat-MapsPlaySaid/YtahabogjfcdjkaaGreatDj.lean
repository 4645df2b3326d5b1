import Derived.Test.YtahabogjfcdjkaaGreatDi
set_option linter.unusedSimpArgs false
set_option linter.unusedVariables false
namespace Go.Proofs.YtahabogjfcdjkaaGreat
open Go.RowKit

/-! ### the document's map: Update, a new entry -/
theorem lookS_none_all {α : Type} {k : List UInt8} : ∀ {l : List (List UInt8 × α)}, lookS l k = none → ∀ y ∈ l, y.1 ≠ k
  | [], _, y, hy => by cases hy
  | (a, b) :: l, h, y, hy => by
    simp only [lookS] at h
    split at h
    · cases h
    · rename_i hne
      rcases List.mem_cons.1 hy with rfl | hy
      · exact hne
      · exact lookS_none_all h y hy
/-- where a key has its place -/
structure InsAt (E : List (List UInt8 × Int)) (k : List UInt8) (p : Nat) : Prop where
  le : p ≤ E.length
  lo : ∀ j z, j < p → E[j]? = some z → Lib.compareBytes z.1 k < 0
  hi : ∀ z, E[p]? = some z → 0 ≤ Lib.compareBytes z.1 k
theorem ins_list {α : Type} (E : List α) (p : Nat) (hp : p ≤ E.length) (c0 c : α) : (((E ++ [c0]).take (p + 1) ++ ((E ++ [c0]).drop p).take (E.length + 1 - (p + 1)))).set p c = E.take p ++ c :: E.drop p := by
  have h1 : ((E ++ [c0]).drop p).take (E.length + 1 - (p + 1)) = E.drop p := by
    rw [List.drop_append_of_le_length hp, List.take_append_of_le_length (by simp), List.take_of_length_le (by simp)]
  have h2 : (E ++ [c0]).take (p + 1) = E.take p ++ [(E ++ [c0])[p]'(by simp; omega)] := by
    rw [List.take_succ_eq_append_getElem (by simp; omega), List.take_append_of_le_length hp]
  rw [h1, h2, List.append_assoc, List.set_append_right (h := by simp; omega)]
  have : p - (E.take p).length = 0 := by simp; omega
  rw [this]
  rfl
section
variable {P : Program} {w : World} {ops : Array Oper} {rest : List Oper} {o : Oper} {a : Act} {Q : Exit → Act → World → Prop}
theorem wpList_shiftG2 (hgd : o.guard = none) (d s : Operand) (t : TypeId) (ho : o.op = .call { callee := .builtin .copy, args := #[d, s], argTypes := #[t, t] })
    {E sz : Nat} {i0 : TypeInfo} (ht : P.underlying t = some (.slice E)) (hi : P.info? E = some i0) (hsz : i0.size = sz) (hpos : 0 < sz)
    (g n cap k : Nat) (css : List (List Value)) (ad : Addr) (m1 m2 c1 c2 : Nat) (hd : a.eval d = .slice (some ad) m1 c1) (e1 : m1 = n - (k + 1)) (had : k + 1 < n → ad = ⟨g, (k + 1) * sz, none⟩) (hs : a.eval s = .slice (some ⟨g, k * sz, none⟩) m2 c2) (e2 : m2 = n - k)
    (h : Sg w E sz (.slice (some ⟨g, 0, none⟩) n cap) css) (hone : ∀ c ∈ css, ∀ y ∈ c, y.oneCell' = true) (hk : k < n)
    (hK : ∀ w', Sg w' E sz (.slice (some ⟨g, 0, none⟩) n cap) (css.take (k + 1) ++ (css.drop k).take (n - (k + 1))) → Kept (fun x => x = g) w w' → wpList P ops Q rest (a.put o.dst (.int .i64 ((n - (k + 1) : Nat) : Int))) w') :
    wpList P ops Q (o :: rest) a w := by
  subst e1
  subst e2
  exact wpList_shiftG hgd d s t ho ht hi hsz hpos g n cap k css ad c1 c2 hd had hs h hone hk hK
end
theorem ent_build (k : List UInt8) (i : Int) (w : World) : (Instr.build 70 #[(0, sV k), (1, .int .i64 i)]).run Tryz.prog w = .ok (.agg #[sV k, .int .i64 i]) w := by kernel_rfl
theorem two_of {α : Type} {l : List α} (h : l.length = 2) : ∃ a b, l = [a, b] := by
  match l, h with
  | [a, b], _ => exact ⟨a, b, rfl⟩
set_option maxHeartbeats 8000000 in
set_option maxRecDepth 100000 in
theorem rupdate_new (x : RLoc) (S : MS) (L : List Rg) (kv bv : Value) (k l : List UInt8) (flags : Int) (w : World) (h : RMp w x S L) (hk : By w kv k) (hkx : ∀ g, kv.ownBlock = some g → ¬ fpR x L g) (hbv : By w bv l) (hbx : ∀ g, bv.ownBlock = some g → ¬ fpR x L g) (ha : asksC S.d k.length = 0) (hl : (l.length : Int) = S.d.value) (hf0 : 0 ≤ flags) (hmx : (S.ent.length : Int) ≤ S.d.entries)
    (hlk0 : lookS S.ent k = none) (hr : refC S false flags = 0) (hh : hidN S.d.timer ≤ l.length) (hpos : 0 < l.length) (hl6 : l.length ≤ 1000000) (hs : L.length < 99999) (hf : S.ent.length < 99999) :
    Calls Tryz.prog 23 #[.pointer (some ⟨x.q, 0, none⟩), kv, bv, .int .u64 flags] w fun e w' => e = .returned (.int .i64 0) ∧ ∃ v' lv' g cv p,
      RMp w' { x with v := v', lv := lv' } { S with ent := S.ent.take p ++ (k, (L.length : Int) + 1) :: S.ent.drop p } (L ++ [⟨g, cv, List.replicate (hidN S.d.timer) 0 ++ l.drop (hidN S.d.timer), true, (hidN S.d.timer : Nat), false⟩]) ∧
      InsAt S.ent k p ∧
      (∀ n, fpR { x with v := v', lv := lv' } (L ++ [⟨g, cv, List.replicate (hidN S.d.timer) 0 ++ l.drop (hidN S.d.timer), true, (hidN S.d.timer : Nat), false⟩]) n → fpR x L n ∨ w.heap.size ≤ n) ∧ Kept (fun n => fpR x L n) w w' := by
  obtain ⟨A, c, rfl⟩ := hk.any
  have hA := rasked_len x S L A k.length c w h
  rw [ha] at hA
  have HA := Lib.hid hA
  have HAT := Lib.hid (rat_any x S L _ k w h hk)
  have HH := Lib.hid h
  have hb0 := h.blk.cell
  simp only [MS.rcells] at hb0
  have hlb : ((l.length : Int) != S.d.value) = false := by simpa using hl
  have hfew := h.few
  have HLK := Lib.hid hlk0
  have hff : flags ≤ 2 ∧ flags ≠ 2 ∧ S.d.kind ≠ 1 ∧ ¬ S.d.entries ≤ S.ent.length := by
    unfold refC at hr
    by_cases h1 : 2 < flags
    · rw [if_pos h1] at hr; exact absurd hr (by decide)
    · rw [if_neg h1, if_neg (by simp), if_neg (by simp)] at hr
      by_cases h2 : S.d.kind = 1
      · rw [if_pos h2] at hr; exact absurd hr (by decide)
      · rw [if_neg h2] at hr
        by_cases h3 : flags = 2
        · rw [if_pos h3] at hr; exact absurd hr (by decide)
        · rw [if_neg h3] at hr
          by_cases h4 : S.d.entries ≤ S.ent.length
          · rw [if_pos h4] at hr; exact absurd hr (by decide)
          · exact ⟨by omega, h3, h2, h4⟩
  have f3 : decide (flags > 2) = false := decide_eq_false (by omega)
  have f3' : decide ((2 : Int) < flags) = false := decide_eq_false (by omega)
  have f2 : (flags == 2) = false := beq_eq_false_iff_ne.2 (by omega)
  have e1 : (S.d.kind == 1) = false := by simpa using hff.2.2.1
  have hee : ((S.ent.length : Int) == S.d.entries) = false := beq_eq_false_iff_ne.2 (by omega)
  obtain ⟨i0, hI0, hI1, hI2, hI3⟩ := info_parts infoEn
  have HBV := Lib.hid (And.intro hbv hbx)
  obtain ⟨A2, c2, rfl⟩ := hbv.any
  have HHH := Lib.hid hh
  have HRG := Lib.hid (fun W (hW : RMp W x S L) => rregion_any x S L l.length W hW hl.symm hl6 hh (by omega))
  have HKB := Lib.hid (And.intro hk hkx)
  have HLV := Lib.hid hl
  clear hA ha h hk hbv hl hlk0 hr hff hh hkx hbx hmx
  go_enter Tryz.func23, Tryz.ntmps23
  go_wp2_with (go_at_call 55; refine HA.out.mono ?_; rintro e w1 ⟨rfl, rfl⟩)
  refine HAT.out.mono ?_
  rintro e w2 ⟨a, rfl, hF, hk2⟩
  have hM := HH.out.quiet hk2
  have hb := hM.blk.cell
  simp only [MS.rcells] at hb
  rcases hF with ⟨rfl, -⟩ | ⟨j, y, rfl, hj, -, hs2, -⟩
  case inr => exact absurd (HLK.out.symm.trans hs2) (by simp)
  obtain ⟨lA, lC, hlv⟩ := Sg.any hM.ent
  rw [List.length_map] at hlv
  rw [hlv] at hb
  have HM := Lib.hid hM
  have HK2 := Lib.hid hk2
  clear hM hk2
  go_wp2_with fail
  refine wp_region_mix0 [.w, .w, .w, .w, .w, .w, .l, .w, .w, .w, .w, .w, .l, .w, .w, .w] (by kernel_rfl) (by kernel_rfl) ?_
  repeat (first
    | (refine mix_w1 ?_; go_big_quiet_step (fail); refine wpQuiet_nil ?_)
    | (refine mix_l1 rfl ?_; go_big_quiet_step (fail); refine wpQuiet_nil ?_))
  refine mix_nil ?_
  go_wp2_with fail
  refine (HRG.out _ HM.out.drew).mono ?_
  rintro e w3 ⟨rfl, v3, g3, cv3, hM3, hfp3, hk3⟩
  have hsz2 := HK2.out.size
  have hK3 : Kept (fun n => fpR x L n) w w3 := ((HK2.out.mono (G := fun n => fpR x L n) (fun _ _ e => e.elim)).drew).trans hk3 (fun _ _ e => .inr (.inr (.inr e)))
  have HM3 := Lib.hid hM3
  have HK3 := Lib.hid hK3
  have HFP3 : Hid (∀ n, fpR { x with v := v3 } (L ++ [⟨g3, cv3, List.replicate l.length 0, true, (hidN S.d.timer : Nat), false⟩]) n → fpR x L n ∨ w.heap.size ≤ n) := Lib.hid (fun n hn => by
    rcases hfp3 n hn with e | e
    · exact .inl e
    · have : w2.heap.size ≤ n := e
      exact .inr (by omega))
  clear hM3 hK3 hfp3 hk3 HRG HAT HA hb hlv
  go_wp2_with fail
  go_loopw [12] (fun pv wr => ∃ p : Nat, pv = .int .i64 p ∧ p ≤ S.ent.length ∧ (∀ j z, j < p → S.ent[j]? = some z → Lib.compareBytes z.1 k < 0) ∧ Kept (fun _ => False) w3 wr) (fun pv _ => S.ent.length - (intOf pv).toNat)
  case atStart => exact ⟨0, rfl, by omega, fun j z hj => absurd hj (Nat.not_lt_zero _), Kept.refl _ w3⟩
  case round =>
  obtain ⟨p, rfl, hp, hall, hKr⟩ := hrel
  have hM := HM3.out.quiet hKr
  have hb := hM.blk.cell
  simp only [MS.rcells] at hb
  have hkb : By wr.drew (.slice A k.length c) k := ((HKB.out.1.kept (F := fun n => fpR x L n) HK3.out HKB.out.2).kept hKr (fun _ _ h => h)).drew
  have hcv : (convert 39 9 (.slice A k.length c)).run Tryz.prog wr.drew = .ok (sV k) wr.drew := hkb.conv Tryz.underlying39 Tryz.underlying5 Tryz.underlying9
  by_cases hlt : p < S.ent.length
  case neg =>
    have hdl : decide ((p : Int) < S.ent.length) = false := decide_eq_false (by omega)
    obtain ⟨lA, lC, hlv⟩ := Sg.any hM.ent
    rw [List.length_map] at hlv
    have hlv' : x.lv = .slice lA S.ent.length lC := hlv
    rw [show ({ x with v := v3 } : RLoc).lv = x.lv from rfl, hlv'] at hb
    have HMr := Lib.hid hM
    have HALL := Lib.hid hall
    have HKR := Lib.hid hKr
    have HSTOP : Hid (∀ z, S.ent[p]? = some z → ¬ Lib.compareBytes z.1 k < 0) := Lib.hid (fun z hz => by rw [List.getElem?_eq_none (by omega)] at hz; cases hz)
    clear hM hlv hall hKr hkb hcv
    go_wp2_with fail
    refine wp_region_mix0 [.w, .w, .w, .w, .l, .w, .w, .w, .w, .w, .w, .l, .w, .w, .w, .l, .w, .l, .l, .w] (by kernel_rfl) (by kernel_rfl) ?_
    repeat (first
      | (refine mix_w1 ?_; go_big_quiet_step (fail); refine wpQuiet_nil ?_)
      | (refine mix_l1 rfl ?_; go_big_quiet_step (fail); refine wpQuiet_nil ?_))
    refine mix_nil ?_
    clear hb hlv'
    have hMq := HMr.out.drew
    have hbq := HMr.out.blk.cell
    simp only [MS.rcells] at hbq
    have hqlv : x.lv.ownBlock ≠ some x.q := fun e => (hMq.dl x.q e).2 rfl
    have HMQ := Lib.hid hMq
    have hentq := hMq.ent
    clear hMq
    go_wp2_with (at_builtin; (refine wpList_pushG (w := wr.drew) rfl (.tmp 120) (.tmp 122) 65 rfl Tryz.underlying65 hI0 hI1 hI2 hI3 rfl (by omega) x.lv (S.ent.map ecell) (ecell ([], 0)) rfl rfl hentq rfl (ecell_one _) (by rw [List.length_map]; omega) (by omega) ?_; intro g5 cap5 w5 hS5 hk5 hg5; have hb5 := hk5.blk hqlv HMQ.out.blk; have hb5c := hb5.cell 7; have hb5f := hb5.frozen 7; have hb5l := hb5.lt))
    have hk6q : Kept (fun k => k = x.q) w5 (w5.setCell ⟨x.q, 7, none⟩ (.slice (some ⟨g5, 0, none⟩) (S.ent.length + 1) cap5)) := Kept.setCell (F := fun k => k = x.q) (Kept.refl _ w5) (fun _ => rfl) _
    have hg5q : g5 ≠ x.q := fun e => by
      rcases hg5 with h | h
      · exact hqlv (by rw [← e]; exact h)
      · have h1 : wr.heap.size ≤ g5 := h
        have h2 : x.q < wr.heap.size := HMQ.out.blk.lt
        omega
    rw [List.length_map] at hS5
    have hS6 := Sg.kept hk6q hS5 (fun g' hg' e => hg5q (by have e1 : g5 = g' := Option.some.inj hg'; have e : g' = x.q := e; omega))
    have hb6 := hb5.set_ 7 (.slice (some ⟨g5, 0, none⟩) (S.ent.length + 1) cap5)
    have hk6 : Kept (fun k => k = x.q ∨ x.lv.ownBlock = some k) wr (w5.setCell ⟨x.q, 7, none⟩ (.slice (some ⟨g5, 0, none⟩) (S.ent.length + 1) cap5)) := ((Kept.drew (Kept.refl (fun k => k = x.q ∨ x.lv.ownBlock = some k) wr)).trans hk5 (fun _ _ e => .inr e)).trans hk6q (fun _ _ e => .inl e)
    clear hbq hk6q hb5 hb5c hb5f hb5l hS5 hk5 hentq
    generalize w5.setCell ⟨x.q, 7, none⟩ (.slice (some ⟨g5, 0, none⟩) (S.ent.length + 1) cap5) = w6 at *
    have hb6c : w6.cell? ⟨x.q, 7, none⟩ = some (.slice (some ⟨g5, 0, none⟩) (S.ent.length + 1) cap5) := by have := hb6.cell 7; simpa [MS.rcells] using this
    have hcap5 : S.ent.length + 1 ≤ cap5 := by obtain ⟨_, _, _, h, _⟩ := Sg.row hS6; exact h
    obtain ⟨ad1, hs1, had1⟩ := cutTailG Tryz.underlying65 hI0 hI2 g5 (S.ent.length + 1) cap5 (p + 1) (by omega)
    obtain ⟨ad2, hs2, had2⟩ := cutTailG Tryz.underlying65 hI0 hI2 g5 (S.ent.length + 1) cap5 p (by omega)
    obtain rfl := had2 (by omega)
    rw [show (((p + 1 : Nat)) : Int) = (p : Int) + 1 by omega] at hs1
    have HK6 := Lib.hid hk6
    have HB6 := Lib.hid hb6
    have HS6 := Lib.hid hS6
    clear hk6 hb6 hS6
    refine wp_region_mix0 [.w, .w, .w, .l, .w, .w, .w, .w, .w, .w, .l, .w, .w, .t] (by kernel_rfl) (by kernel_rfl) ?_
    repeat (first
      | (refine mix_w1 ?_; go_big_quiet_step (fail); refine wpQuiet_nil ?_)
      | (refine mix_l1 rfl ?_; go_big_quiet_step (fail); refine wpQuiet_nil ?_))
    refine mix_t fun Q' hQ' => ?_
    refine wpList_shiftG2 (w := w6.drew) rfl (.tmp 132) (.tmp 138) 65 rfl Tryz.underlying65 hI0 hI2 (by omega) g5 (S.ent.length + 1) cap5 p (S.ent.map ecell ++ [ecell ([], 0)]) ad1 _ _ _ _ rfl (by omega) (fun h => had1 (by omega)) rfl (by omega) (Sg.kept (Kept.drew (Kept.refl (fun _ => False) w6)) HS6.out (fun _ _ h => h)) (fun cc hcc y hy => by
      rcases List.mem_append.1 hcc with hcc | hcc
      · obtain ⟨zz, _, rfl⟩ := List.mem_map.1 hcc
        exact ecell_one zz y hy
      · rw [List.mem_singleton.1 hcc] at hy
        exact ecell_one _ y hy) (by omega) ?_
    intro w7 hS7 hk7
    refine hQ' _ _ ?_
    clear hQ' Q' hs1 had1 hs2 had2
    try simp only [Act.put, List.setIfInBounds_toArray, List.set_cons_succ, List.set_cons_zero]
    refine mix_nil ?_
    have hkb7 : By w7 (.slice A k.length c) k := by
      refine ((((HKB.out.1.kept HK3.out HKB.out.2).kept HKR.out (fun _ _ h => h)).kept HK6.out (fun g hg e => ?_)).drew).kept hk7 (fun g hg e => ?_)
      · rcases e with e | e
        · exact HKB.out.2 g hg (.inl e)
        · exact HKB.out.2 g hg (.inr (.inl e))
      · have e : g = g5 := e
        subst e
        rcases hg5 with h | h
        · exact HKB.out.2 _ hg (.inr (.inl h))
        · have h1 : wr.heap.size ≤ g := h
          have h2 := HKB.out.1.lt _ hg
          have h3 := HK3.out.size
          have h4 := HKR.out.size
          omega
    have hcv7 : (convert 39 9 (.slice A k.length c)).run Tryz.prog w7.drew = .ok (sV k) w7.drew := hkb7.drew.conv Tryz.underlying39 Tryz.underlying5 Tryz.underlying9
    have hb7 := hk7.blk (fun e => hg5q (Eq.symm e)) HB6.out.drew
    have hb7c : w7.cell? ⟨x.q, 7, none⟩ = some (.slice (some ⟨g5, 0, none⟩) (S.ent.length + 1) cap5) := by have := hb7.cell 7; simpa [MS.rcells] using this
    have hlen7 : ((S.ent.map ecell ++ [ecell ([], 0)]).take (p + 1) ++ ((S.ent.map ecell ++ [ecell ([], 0)]).drop p).take (S.ent.length + 1 - (p + 1))).length = S.ent.length + 1 := by simp; omega
    obtain ⟨css7, hcss⟩ : ∃ css7, (S.ent.map ecell ++ [ecell ([], 0)]).take (p + 1) ++ ((S.ent.map ecell ++ [ecell ([], 0)]).drop p).take (S.ent.length + 1 - (p + 1)) = css7 := ⟨_, rfl⟩
    rw [hcss] at hlen7 hS7
    have HCSS := Lib.hid hcss
    obtain ⟨cc, hcc⟩ : ∃ cc, css7[p]? = some cc := ⟨_, List.getElem?_eq_getElem (by omega)⟩
    obtain ⟨ca, cb, rfl⟩ := two_of (hS7.1 cc (List.mem_of_getElem? hcc))
    have q0 : w7.cell? ⟨g5, p * 2, none⟩ = some ca := by simpa using Sg.cell hS7 hcc (k := 0) (by omega)
    have q1 : w7.cell? ⟨g5, p * 2 + 1, none⟩ = some cb := by simpa using Sg.cell hS7 hcc (k := 1) (by omega)
    have q2 := Sg.frozen hS7 (p * 2)
    have q3 := Sg.frozen hS7 (p * 2 + 1)
    have hl7 : g5 < w7.heap.size := Sg.lt hS7 g5 rfl
    have hpd2 : (p : Int) < (S.ent.length : Int) + 1 := by omega
    have hpd3 : p < S.ent.length + 1 := by omega
    have HLEN7 := Lib.hid hlen7
    clear hlen7
    have HCC := Lib.hid hcc
    have HS7 := Lib.hid hS7
    have HB7 := Lib.hid hb7
    have HK7 := Lib.hid hk7
    clear hcss hcc hS7 hb7 hk7 hkb7
    go_wp2_with fail
    refine wp_region_mix0 [.w, .w, .w, .l, .w, .w, .l, .w, .l, .w, .t] (by kernel_rfl) (by kernel_rfl) ?_
    repeat (first
      | (refine mix_w1 ?_; go_big_quiet_step (fail); refine wpQuiet_nil ?_)
      | (refine mix_l1 rfl ?_; go_big_quiet_step (fail); refine wpQuiet_nil ?_))
    refine mix_build1 rfl rfl 70 _ rfl [(0, sV k), (1, .int .i64 ((L.length : Int) + 1))] rfl (.agg #[sV k, .int .i64 ((L.length : Int) + 1)]) (fun w' => ent_build k _ w') ?_
    simp only [Act.put, List.setIfInBounds_toArray, List.set_cons_succ, List.set_cons_zero]
    refine mix_w1 ?_; go_big_quiet_step (fail); refine wpQuiet_nil ?_
    unfold sV
    refine mix_t fun Q' hQ' => ?_
    go_wp2_with fail
    refine mix_nil ?_
    have hS8 := Sg.setCell (Sg.setCell HS7.out HCC.out (k := 0) (by omega) (sV k)) (i := p) (c := [sV k, cb]) (by rw [List.getElem?_set_self (by have := HLEN7.out; omega)]; rfl) (k := 1) (by omega) (.int .i64 ((L.length : Int) + 1))
    have hcs8 : (css7.set p ([ca, cb].set 0 (sV k))).set p ([sV k, cb].set 1 (.int .i64 ((L.length : Int) + 1))) = ((S.ent.take p ++ (k, (L.length : Int) + 1) :: S.ent.drop p)).map ecell := by
      have hins := ins_list (S.ent.map ecell) p (by rw [List.length_map]; omega) (ecell ([], 0)) (ecell (k, (L.length : Int) + 1))
      rw [List.length_map, HCSS.out] at hins
      rw [List.set_set, List.map_append, List.map_cons, List.map_take, List.map_drop, ← hins]
      rfl
    rw [hcs8] at hS8
    have hk78 : Kept (fun n => n = g5) w7 ((w7.setCell ⟨g5, p * 2, none⟩ (sV k)).setCell ⟨g5, p * 2 + 1, none⟩ (.int .i64 ((L.length : Int) + 1))) := (Kept.setCell (F := fun n => n = g5) (Kept.refl _ w7) (fun _ => rfl) _).setCell (fun _ => rfl) _
    have hk8 : Kept (fun n => n = x.q ∨ x.lv.ownBlock = some n) wr ((w7.setCell ⟨g5, p * 2, none⟩ (sV k)).setCell ⟨g5, p * 2 + 1, none⟩ (.int .i64 ((L.length : Int) + 1))) := by
      refine (HK6.out.drew.trans HK7.out (fun n hn e => ?_)).trans hk78 (fun n hn e => ?_)
      all_goals
        have e : n = g5 := e
        subst e
        rcases hg5 with h | h
        · exact .inr h
        · have h1 : wr.heap.size ≤ n := h
          omega
    have hb8 := hk78.blk (fun e => hg5q (Eq.symm e)) HB7.out
    have hnin : ∀ y ∈ S.ent, y.1 ≠ k := lookS_none_all HLK.out
    have hM8 := HMr.out.ents (lv' := (.slice (some ⟨g5, 0, none⟩) (S.ent.length + 1) cap5)) (E' := (S.ent.take p ++ (k, (L.length : Int) + 1) :: S.ent.drop p)) hk8 (by exact hb8) (by exact hS8) (fun g' hg' => by
        have e1 : g5 = g' := Option.some.inj hg'
        subst e1
        rcases hg5 with h | h
        · exact .inl h
        · exact .inr h)
      (fun y hy => by
        rcases List.mem_append.1 hy with hy | hy
        · exact HMr.out.ids y (List.mem_of_mem_take hy)
        · rcases List.mem_cons.1 hy with rfl | hy
          · exact ⟨L.length, ⟨g3, cv3, List.replicate l.length 0, true, (hidN S.d.timer : Nat), false⟩, rfl, by rw [List.getElem?_append_right (Nat.le_refl _), Nat.sub_self]; rfl, by rw [← HLV.out]; simp⟩
          · exact HMr.out.ids y (List.mem_of_mem_drop hy))
      (by
        rw [List.map_append, List.map_cons]
        have hnd := HMr.out.nd
        have hsp : S.ent.map (·.1) = (S.ent.take p).map (·.1) ++ (S.ent.drop p).map (·.1) := by rw [← List.map_append, List.take_append_drop]
        rw [hsp, List.nodup_append] at hnd
        rw [List.nodup_append, List.nodup_cons]
        refine ⟨hnd.1, ⟨fun hm => ?_, hnd.2.1⟩, fun a ha b hb e => ?_⟩
        · obtain ⟨y, hy, e⟩ := List.mem_map.1 hm
          exact hnin y (List.mem_of_mem_drop hy) e
        · rcases List.mem_cons.1 hb with rfl | hb
          · obtain ⟨y, hy, e2⟩ := List.mem_map.1 ha
            exact hnin y (List.mem_of_mem_take hy) (e2.trans e)
          · exact hnd.2.2 a ha b hb e)
      (by simp; omega)
    have HM8 := Lib.hid hM8
    have HK8 := Lib.hid hk8
    clear hS8 hcs8 hk78 hk8 hb8 hM8 hb6c hb7c q0 q1 q2 q3 hl7 hcv7
    change Exit.then _ _ Exit.normal _ (World.drew ((w7.setCell ⟨g5, p * 2, none⟩ (sV k)).setCell ⟨g5, p * 2 + 1, none⟩ (.int .i64 ((L.length : Int) + 1))))
    generalize (w7.setCell ⟨g5, p * 2, none⟩ (sV k)).setCell ⟨g5, p * 2 + 1, none⟩ (.int .i64 ((L.length : Int) + 1)) = w8 at *
    have c84 : w8.cell? ⟨x.q, 4, none⟩ = some (.bool S.d.timer) := by have := HM8.out.blk.cell 4; simpa [MS.rcells] using this
    have c86 : w8.cell? ⟨x.q, 6, none⟩ = some (.pointer (some ⟨x.mp, 0, none⟩)) := by have := HM8.out.blk.cell 6; simpa [MS.rcells] using this
    have hbv8 : By w8 (.slice A2 l.length c2) l := ((HBV.out.1.kept HK3.out HBV.out.2).kept HKR.out (fun _ _ h => h)).kept HK8.out (fun g hg e => by
      rcases e with e | e
      · exact HBV.out.2 g hg (.inl e)
      · exact HBV.out.2 g hg (.inr (.inl e)))
    obtain ⟨dv, hsl, hdv⟩ := byDrop hbv8 HHH.out hpos
    have HDV := Lib.hid hdv
    clear hdv hbv8
    have hin : (L ++ [(⟨g3, cv3, List.replicate l.length 0, true, (hidN S.d.timer : Nat), false⟩ : Rg)])[L.length]? = some ⟨g3, cv3, List.replicate l.length 0, true, (hidN S.d.timer : Nat), false⟩ := by rw [List.getElem?_append_right (Nat.le_refl _), Nat.sub_self]; rfl
    have HIN := Lib.hid hin
    clear hin
    cases ht : S.d.timer
    case false =>
      have hsl0 : ∀ w' : World, (Instr.sliceAt 39 (.slice A2 l.length c2) (some (.int .i64 0)) none none).run Tryz.prog w' = .ok dv w' := fun w' => by have := hsl w'; rw [ht] at this; exact this
      have hdv := HDV.out
      have hhh := HHH.out
      have HTT := Lib.hid ht
      rw [ht] at c84 hdv hhh
      have HDV2 := Lib.hid hdv
      have HHH2 := Lib.hid hhh
      clear hsl hdv hhh ht
      go_wp2_with fail
      refine wp_region_mix0 [.w, .w, .w, .l, .w, .w, .w, .w, .w, .t] (by kernel_rfl) (by kernel_rfl) ?_
      repeat (first
        | (refine mix_w1 ?_; go_big_quiet_step (fail); refine wpQuiet_nil ?_)
        | (refine mix_l1 rfl ?_; go_big_quiet_step (fail); refine wpQuiet_nil ?_))
      have hle2 : 0 + (l.drop 0).length ≤ (List.replicate l.length (0 : UInt8)).length := by have : 0 ≤ l.length := HHH2.out; rw [List.length_drop, List.length_replicate]; omega
      have hset := rset_in x.mp v3 _ L.length 0 dv (l.drop 0) w8.drew.drew HM8.out.drew.drew.mem HIN.out HDV2.out.drew.drew hle2 (by rw [List.length_replicate]; exact hpos)
      have HSET := Lib.hid hset
      clear hset
      refine mix_t fun Q' hQ' => ?_
      go_wp2_with fail
      refine HSET.out.mono ?_
      rintro e w9 ⟨rfl, hM9, hB9, hk9⟩
      have h9 := HM8.out.drew.drew.memory0 hk9 (bv_in HIN.out) hM9 hB9 (set_over HIN.out _ (by have : 0 ≤ l.length := HHH2.out; simp <;> omega))
      have hbe : (List.replicate l.length (0 : UInt8)).take 0 ++ l.drop 0 ++ (List.replicate l.length (0 : UInt8)).drop (0 + (l.drop 0).length) = List.replicate (hidN S.d.timer) 0 ++ l.drop (hidN S.d.timer) := by
        have h1 : 0 ≤ l.length := HHH2.out
        have hd : (List.replicate l.length (0 : UInt8)).drop (0 + (l.drop 0).length) = [] := List.drop_of_length_le (by rw [List.length_drop, List.length_replicate]; omega)
        rw [hd, List.append_nil, List.take_replicate, Nat.min_eq_left h1, show hidN S.d.timer = 0 by rw [HTT.out]; rfl]
      have hll : (L ++ [(⟨g3, cv3, List.replicate l.length 0, true, (hidN S.d.timer : Nat), false⟩ : Rg)]).set L.length { (⟨g3, cv3, List.replicate l.length 0, true, (hidN S.d.timer : Nat), false⟩ : Rg) with b := (List.replicate l.length (0 : UInt8)).take 0 ++ l.drop 0 ++ (List.replicate l.length (0 : UInt8)).drop (0 + (l.drop 0).length) } = L ++ [⟨g3, cv3, List.replicate (hidN S.d.timer) 0 ++ l.drop (hidN S.d.timer), true, (hidN S.d.timer : Nat), false⟩] := by
        rw [List.set_append_right (h := Nat.le_refl _), Nat.sub_self, hbe]
        rfl
      have HBV9 := Lib.hid (bv_in (p := x.mp) (v := v3) HIN.out)
      rw [hll] at h9 hB9
      have H9 := Lib.hid (And.intro h9 (And.intro hB9 hk9))
      clear h9 hB9 hk9 hM9 hbe hll hle2
      go_wp2_with fail
      refine mix_nil ?_
      go_wp2_with fail
      go_ret
      have hsz := HK3.out.size
      refine ⟨rfl, v3, (.slice (some ⟨g5, 0, none⟩) (S.ent.length + 1) cap5), g3, cv3, p, H9.out.1, ⟨hp, HALL.out, fun z hz => by have := HSTOP.out z hz; omega⟩, fun n hn => ?_, ?_⟩
      · rcases hn with hn | hn | hn | hn
        · exact .inl (.inl hn)
        · have e1 : g5 = n := Option.some.inj hn
          subst e1
          rcases hg5 with h | h
          · exact .inl (.inr (.inl h))
          · have h1 : wr.heap.size ≤ g5 := h
            have h2 := HKR.out.size
            exact .inr (by omega)
        · exact .inl (.inr (.inr (.inl hn)))
        · exact HFP3.out n (.inr (.inr (.inr (by rw [← H9.out.2.1]; exact hn))))
      · refine ((HK3.out.trans HKR.out (fun _ _ h => h.elim)).trans HK8.out.drew.drew (fun n hn e => ?_)).trans ((H9.out.2.2)) (fun n hn e => ?_)
        · rcases e with e | e
          · exact .inl e
          · exact .inr (.inl e)
        · rcases HFP3.out n (.inr (.inr (.inr (HBV9.out n e)))) with e2 | e2
          · exact e2
          · omega
    case true =>
      have hsl0 : ∀ w' : World, (Instr.sliceAt 39 (.slice A2 l.length c2) (some (.int .i64 16)) none none).run Tryz.prog w' = .ok dv w' := fun w' => by have := hsl w'; rw [ht] at this; exact this
      have hdv := HDV.out
      have hhh := HHH.out
      have HTT := Lib.hid ht
      rw [ht] at c84 hdv hhh
      have HDV2 := Lib.hid hdv
      have HHH2 := Lib.hid hhh
      clear hsl hdv hhh ht
      go_wp2_with fail
      refine wp_region_mix0 [.w, .w, .w, .l, .w, .w, .w, .w, .w, .t] (by kernel_rfl) (by kernel_rfl) ?_
      repeat (first
        | (refine mix_w1 ?_; go_big_quiet_step (fail); refine wpQuiet_nil ?_)
        | (refine mix_l1 rfl ?_; go_big_quiet_step (fail); refine wpQuiet_nil ?_))
      have hle2 : 16 + (l.drop 16).length ≤ (List.replicate l.length (0 : UInt8)).length := by have : 16 ≤ l.length := HHH2.out; rw [List.length_drop, List.length_replicate]; omega
      have hset := rset_in x.mp v3 _ L.length 16 dv (l.drop 16) w8.drew.drew HM8.out.drew.drew.mem HIN.out HDV2.out.drew.drew hle2 (by rw [List.length_replicate]; exact hpos)
      have HSET := Lib.hid hset
      clear hset
      refine mix_t fun Q' hQ' => ?_
      go_wp2_with fail
      refine HSET.out.mono ?_
      rintro e w9 ⟨rfl, hM9, hB9, hk9⟩
      have h9 := HM8.out.drew.drew.memory0 hk9 (bv_in HIN.out) hM9 hB9 (set_over HIN.out _ (by have : 16 ≤ l.length := HHH2.out; simp <;> omega))
      have hbe : (List.replicate l.length (0 : UInt8)).take 16 ++ l.drop 16 ++ (List.replicate l.length (0 : UInt8)).drop (16 + (l.drop 16).length) = List.replicate (hidN S.d.timer) 0 ++ l.drop (hidN S.d.timer) := by
        have h1 : 16 ≤ l.length := HHH2.out
        have hd : (List.replicate l.length (0 : UInt8)).drop (16 + (l.drop 16).length) = [] := List.drop_of_length_le (by rw [List.length_drop, List.length_replicate]; omega)
        rw [hd, List.append_nil, List.take_replicate, Nat.min_eq_left h1, show hidN S.d.timer = 16 by rw [HTT.out]; rfl]
      have hll : (L ++ [(⟨g3, cv3, List.replicate l.length 0, true, (hidN S.d.timer : Nat), false⟩ : Rg)]).set L.length { (⟨g3, cv3, List.replicate l.length 0, true, (hidN S.d.timer : Nat), false⟩ : Rg) with b := (List.replicate l.length (0 : UInt8)).take 16 ++ l.drop 16 ++ (List.replicate l.length (0 : UInt8)).drop (16 + (l.drop 16).length) } = L ++ [⟨g3, cv3, List.replicate (hidN S.d.timer) 0 ++ l.drop (hidN S.d.timer), true, (hidN S.d.timer : Nat), false⟩] := by
        rw [List.set_append_right (h := Nat.le_refl _), Nat.sub_self, hbe]
        rfl
      have HBV9 := Lib.hid (bv_in (p := x.mp) (v := v3) HIN.out)
      rw [hll] at h9 hB9
      have H9 := Lib.hid (And.intro h9 (And.intro hB9 hk9))
      clear h9 hB9 hk9 hM9 hbe hll hle2
      go_wp2_with fail
      refine mix_nil ?_
      go_wp2_with fail
      go_ret
      have hsz := HK3.out.size
      refine ⟨rfl, v3, (.slice (some ⟨g5, 0, none⟩) (S.ent.length + 1) cap5), g3, cv3, p, H9.out.1, ⟨hp, HALL.out, fun z hz => by have := HSTOP.out z hz; omega⟩, fun n hn => ?_, ?_⟩
      · rcases hn with hn | hn | hn | hn
        · exact .inl (.inl hn)
        · have e1 : g5 = n := Option.some.inj hn
          subst e1
          rcases hg5 with h | h
          · exact .inl (.inr (.inl h))
          · have h1 : wr.heap.size ≤ g5 := h
            have h2 := HKR.out.size
            exact .inr (by omega)
        · exact .inl (.inr (.inr (.inl hn)))
        · exact HFP3.out n (.inr (.inr (.inr (by rw [← H9.out.2.1]; exact hn))))
      · refine ((HK3.out.trans HKR.out (fun _ _ h => h.elim)).trans HK8.out.drew.drew (fun n hn e => ?_)).trans ((H9.out.2.2)) (fun n hn e => ?_)
        · rcases e with e | e
          · exact .inl e
          · exact .inr (.inl e)
        · rcases HFP3.out n (.inr (.inr (.inr (HBV9.out n e)))) with e2 | e2
          · exact e2
          · omega
  case pos =>
  have hdl : decide ((p : Int) < S.ent.length) = true := decide_eq_true (by omega)
  obtain ⟨z, hz⟩ : ∃ z, S.ent[p]? = some z := ⟨_, List.getElem?_eq_getElem hlt⟩
  obtain ⟨g, cap, hv, hcap, hgl⟩ := Sg.some_ hM.ent (by rw [List.length_map]; omega)
  rw [List.length_map] at hv
  obtain ⟨e0, e1'⟩ := hM.eCell hv hz
  have hv' : x.lv = .slice (some ⟨g, 0, none⟩) S.ent.length cap := hv
  rw [show ({ x with v := v3 } : RLoc).lv = x.lv from rfl, hv'] at hb
  obtain ⟨zk, hzk⟩ : ∃ zk, z.1 = zk := ⟨_, rfl⟩
  rw [hzk] at e0
  have HMr := Lib.hid hM
  have HALL := Lib.hid hall
  have HKR := Lib.hid hKr
  have HZ := Lib.hid hz
  have HZK := Lib.hid hzk
  clear hM hv hall hKr hkb hz hzk e1'
  go_wp2_with fail
  refine wp_region_mix0 [.w, .w, .w, .w, .l, .w, .w, .w, .w, .w, .w, .l, .w, .w, .w, .l, .w, .l, .l, .w] (by kernel_rfl) (by kernel_rfl) ?_
  repeat (first
    | (refine mix_w1 ?_; go_big_quiet_step (fail); refine wpQuiet_nil ?_)
    | (refine mix_l1 rfl ?_; go_big_quiet_step (fail); refine wpQuiet_nil ?_))
  refine mix_binG rfl rfl .lss 9 9 (.tmp 109) (.tmp 111) rfl (sV zk) (sV k) (.bool (decide (Lib.compareBytes zk k < 0))) rfl rfl (fun w' => guardS .lss _ _ _ zk k w') (fun w' => run_lssS _ zk k w') ?_
  simp only [Act.put, List.setIfInBounds_toArray, List.set_cons_succ, List.set_cons_zero]
  clear hb hv' e0 hcv
  by_cases hcb : Lib.compareBytes zk k < 0
  · have hcd : decide (Lib.compareBytes zk k < 0) = true := decide_eq_true hcb
    have HCB := Lib.hid hcb
    clear hcb
    rw [hcd]
    refine mix_w1 ?_; go_big_quiet_step (fail); refine wpQuiet_nil ?_
    refine mix_nil ?_
    clear hcd
    go_wp2_with fail
    go_roundw
    case rel => exact ⟨p + 1, by simp, by omega, fun j z hj hz => by
      by_cases e : j = p
      · subst e
        rw [HZ.out] at hz
        cases hz
        rw [HZK.out]
        exact HCB.out
      · exact HALL.out j z (by omega) hz, HKR.out.drew⟩
    case measure => (simp [intOf]; omega)
  · have hcd : decide (Lib.compareBytes zk k < 0) = false := decide_eq_false hcb
    have HSTOP : Hid (∀ z, S.ent[p]? = some z → ¬ Lib.compareBytes z.1 k < 0) := Lib.hid (fun z hz => by
      rw [HZ.out] at hz
      cases hz
      rw [HZK.out]
      exact hcb)
    clear hcb
    rw [hcd]
    refine mix_w1 ?_; go_big_quiet_step (fail); refine wpQuiet_nil ?_
    refine mix_nil ?_
    clear hcd
    have hMq := HMr.out.drew
    have hbq := HMr.out.blk.cell
    simp only [MS.rcells] at hbq
    have hqlv : x.lv.ownBlock ≠ some x.q := fun e => (hMq.dl x.q e).2 rfl
    have HMQ := Lib.hid hMq
    have hentq := hMq.ent
    clear hMq
    go_wp2_with (at_builtin; (refine wpList_pushG (w := wr.drew) rfl (.tmp 120) (.tmp 122) 65 rfl Tryz.underlying65 hI0 hI1 hI2 hI3 rfl (by omega) x.lv (S.ent.map ecell) (ecell ([], 0)) rfl rfl hentq rfl (ecell_one _) (by rw [List.length_map]; omega) (by omega) ?_; intro g5 cap5 w5 hS5 hk5 hg5; have hb5 := hk5.blk hqlv HMQ.out.blk; have hb5c := hb5.cell 7; have hb5f := hb5.frozen 7; have hb5l := hb5.lt))
    have hk6q : Kept (fun k => k = x.q) w5 (w5.setCell ⟨x.q, 7, none⟩ (.slice (some ⟨g5, 0, none⟩) (S.ent.length + 1) cap5)) := Kept.setCell (F := fun k => k = x.q) (Kept.refl _ w5) (fun _ => rfl) _
    have hg5q : g5 ≠ x.q := fun e => by
      rcases hg5 with h | h
      · exact hqlv (by rw [← e]; exact h)
      · have h1 : wr.heap.size ≤ g5 := h
        have h2 : x.q < wr.heap.size := HMQ.out.blk.lt
        omega
    rw [List.length_map] at hS5
    have hS6 := Sg.kept hk6q hS5 (fun g' hg' e => hg5q (by have e1 : g5 = g' := Option.some.inj hg'; have e : g' = x.q := e; omega))
    have hb6 := hb5.set_ 7 (.slice (some ⟨g5, 0, none⟩) (S.ent.length + 1) cap5)
    have hk6 : Kept (fun k => k = x.q ∨ x.lv.ownBlock = some k) wr (w5.setCell ⟨x.q, 7, none⟩ (.slice (some ⟨g5, 0, none⟩) (S.ent.length + 1) cap5)) := ((Kept.drew (Kept.refl (fun k => k = x.q ∨ x.lv.ownBlock = some k) wr)).trans hk5 (fun _ _ e => .inr e)).trans hk6q (fun _ _ e => .inl e)
    clear hbq hk6q hb5 hb5c hb5f hb5l hS5 hk5 hentq
    generalize w5.setCell ⟨x.q, 7, none⟩ (.slice (some ⟨g5, 0, none⟩) (S.ent.length + 1) cap5) = w6 at *
    have hb6c : w6.cell? ⟨x.q, 7, none⟩ = some (.slice (some ⟨g5, 0, none⟩) (S.ent.length + 1) cap5) := by have := hb6.cell 7; simpa [MS.rcells] using this
    have hcap5 : S.ent.length + 1 ≤ cap5 := by obtain ⟨_, _, _, h, _⟩ := Sg.row hS6; exact h
    obtain ⟨ad1, hs1, had1⟩ := cutTailG Tryz.underlying65 hI0 hI2 g5 (S.ent.length + 1) cap5 (p + 1) (by omega)
    obtain ⟨ad2, hs2, had2⟩ := cutTailG Tryz.underlying65 hI0 hI2 g5 (S.ent.length + 1) cap5 p (by omega)
    obtain rfl := had2 (by omega)
    rw [show (((p + 1 : Nat)) : Int) = (p : Int) + 1 by omega] at hs1
    have HK6 := Lib.hid hk6
    have HB6 := Lib.hid hb6
    have HS6 := Lib.hid hS6
    clear hk6 hb6 hS6
    refine wp_region_mix0 [.w, .w, .w, .l, .w, .w, .w, .w, .w, .w, .l, .w, .w, .t] (by kernel_rfl) (by kernel_rfl) ?_
    repeat (first
      | (refine mix_w1 ?_; go_big_quiet_step (fail); refine wpQuiet_nil ?_)
      | (refine mix_l1 rfl ?_; go_big_quiet_step (fail); refine wpQuiet_nil ?_))
    refine mix_t fun Q' hQ' => ?_
    refine wpList_shiftG2 (w := w6.drew) rfl (.tmp 132) (.tmp 138) 65 rfl Tryz.underlying65 hI0 hI2 (by omega) g5 (S.ent.length + 1) cap5 p (S.ent.map ecell ++ [ecell ([], 0)]) ad1 _ _ _ _ rfl (by omega) (fun h => had1 (by omega)) rfl (by omega) (Sg.kept (Kept.drew (Kept.refl (fun _ => False) w6)) HS6.out (fun _ _ h => h)) (fun cc hcc y hy => by
      rcases List.mem_append.1 hcc with hcc | hcc
      · obtain ⟨zz, _, rfl⟩ := List.mem_map.1 hcc
        exact ecell_one zz y hy
      · rw [List.mem_singleton.1 hcc] at hy
        exact ecell_one _ y hy) (by omega) ?_
    intro w7 hS7 hk7
    refine hQ' _ _ ?_
    clear hQ' Q' hs1 had1 hs2 had2
    try simp only [Act.put, List.setIfInBounds_toArray, List.set_cons_succ, List.set_cons_zero]
    refine mix_nil ?_
    have hkb7 : By w7 (.slice A k.length c) k := by
      refine ((((HKB.out.1.kept HK3.out HKB.out.2).kept HKR.out (fun _ _ h => h)).kept HK6.out (fun g hg e => ?_)).drew).kept hk7 (fun g hg e => ?_)
      · rcases e with e | e
        · exact HKB.out.2 g hg (.inl e)
        · exact HKB.out.2 g hg (.inr (.inl e))
      · have e : g = g5 := e
        subst e
        rcases hg5 with h | h
        · exact HKB.out.2 _ hg (.inr (.inl h))
        · have h1 : wr.heap.size ≤ g := h
          have h2 := HKB.out.1.lt _ hg
          have h3 := HK3.out.size
          have h4 := HKR.out.size
          omega
    have hcv7 : (convert 39 9 (.slice A k.length c)).run Tryz.prog w7.drew = .ok (sV k) w7.drew := hkb7.drew.conv Tryz.underlying39 Tryz.underlying5 Tryz.underlying9
    have hb7 := hk7.blk (fun e => hg5q (Eq.symm e)) HB6.out.drew
    have hb7c : w7.cell? ⟨x.q, 7, none⟩ = some (.slice (some ⟨g5, 0, none⟩) (S.ent.length + 1) cap5) := by have := hb7.cell 7; simpa [MS.rcells] using this
    have hlen7 : ((S.ent.map ecell ++ [ecell ([], 0)]).take (p + 1) ++ ((S.ent.map ecell ++ [ecell ([], 0)]).drop p).take (S.ent.length + 1 - (p + 1))).length = S.ent.length + 1 := by simp; omega
    obtain ⟨css7, hcss⟩ : ∃ css7, (S.ent.map ecell ++ [ecell ([], 0)]).take (p + 1) ++ ((S.ent.map ecell ++ [ecell ([], 0)]).drop p).take (S.ent.length + 1 - (p + 1)) = css7 := ⟨_, rfl⟩
    rw [hcss] at hlen7 hS7
    have HCSS := Lib.hid hcss
    obtain ⟨cc, hcc⟩ : ∃ cc, css7[p]? = some cc := ⟨_, List.getElem?_eq_getElem (by omega)⟩
    obtain ⟨ca, cb, rfl⟩ := two_of (hS7.1 cc (List.mem_of_getElem? hcc))
    have q0 : w7.cell? ⟨g5, p * 2, none⟩ = some ca := by simpa using Sg.cell hS7 hcc (k := 0) (by omega)
    have q1 : w7.cell? ⟨g5, p * 2 + 1, none⟩ = some cb := by simpa using Sg.cell hS7 hcc (k := 1) (by omega)
    have q2 := Sg.frozen hS7 (p * 2)
    have q3 := Sg.frozen hS7 (p * 2 + 1)
    have hl7 : g5 < w7.heap.size := Sg.lt hS7 g5 rfl
    have hpd2 : (p : Int) < (S.ent.length : Int) + 1 := by omega
    have hpd3 : p < S.ent.length + 1 := by omega
    have HLEN7 := Lib.hid hlen7
    clear hlen7
    have HCC := Lib.hid hcc
    have HS7 := Lib.hid hS7
    have HB7 := Lib.hid hb7
    have HK7 := Lib.hid hk7
    clear hcss hcc hS7 hb7 hk7 hkb7
    go_wp2_with fail
    refine wp_region_mix0 [.w, .w, .w, .l, .w, .w, .l, .w, .l, .w, .t] (by kernel_rfl) (by kernel_rfl) ?_
    repeat (first
      | (refine mix_w1 ?_; go_big_quiet_step (fail); refine wpQuiet_nil ?_)
      | (refine mix_l1 rfl ?_; go_big_quiet_step (fail); refine wpQuiet_nil ?_))
    refine mix_build1 rfl rfl 70 _ rfl [(0, sV k), (1, .int .i64 ((L.length : Int) + 1))] rfl (.agg #[sV k, .int .i64 ((L.length : Int) + 1)]) (fun w' => ent_build k _ w') ?_
    simp only [Act.put, List.setIfInBounds_toArray, List.set_cons_succ, List.set_cons_zero]
    refine mix_w1 ?_; go_big_quiet_step (fail); refine wpQuiet_nil ?_
    unfold sV
    refine mix_t fun Q' hQ' => ?_
    go_wp2_with fail
    refine mix_nil ?_
    have hS8 := Sg.setCell (Sg.setCell HS7.out HCC.out (k := 0) (by omega) (sV k)) (i := p) (c := [sV k, cb]) (by rw [List.getElem?_set_self (by have := HLEN7.out; omega)]; rfl) (k := 1) (by omega) (.int .i64 ((L.length : Int) + 1))
    have hcs8 : (css7.set p ([ca, cb].set 0 (sV k))).set p ([sV k, cb].set 1 (.int .i64 ((L.length : Int) + 1))) = ((S.ent.take p ++ (k, (L.length : Int) + 1) :: S.ent.drop p)).map ecell := by
      have hins := ins_list (S.ent.map ecell) p (by rw [List.length_map]; omega) (ecell ([], 0)) (ecell (k, (L.length : Int) + 1))
      rw [List.length_map, HCSS.out] at hins
      rw [List.set_set, List.map_append, List.map_cons, List.map_take, List.map_drop, ← hins]
      rfl
    rw [hcs8] at hS8
    have hk78 : Kept (fun n => n = g5) w7 ((w7.setCell ⟨g5, p * 2, none⟩ (sV k)).setCell ⟨g5, p * 2 + 1, none⟩ (.int .i64 ((L.length : Int) + 1))) := (Kept.setCell (F := fun n => n = g5) (Kept.refl _ w7) (fun _ => rfl) _).setCell (fun _ => rfl) _
    have hk8 : Kept (fun n => n = x.q ∨ x.lv.ownBlock = some n) wr ((w7.setCell ⟨g5, p * 2, none⟩ (sV k)).setCell ⟨g5, p * 2 + 1, none⟩ (.int .i64 ((L.length : Int) + 1))) := by
      refine (HK6.out.drew.trans HK7.out (fun n hn e => ?_)).trans hk78 (fun n hn e => ?_)
      all_goals
        have e : n = g5 := e
        subst e
        rcases hg5 with h | h
        · exact .inr h
        · have h1 : wr.heap.size ≤ n := h
          omega
    have hb8 := hk78.blk (fun e => hg5q (Eq.symm e)) HB7.out
    have hnin : ∀ y ∈ S.ent, y.1 ≠ k := lookS_none_all HLK.out
    have hM8 := HMr.out.ents (lv' := (.slice (some ⟨g5, 0, none⟩) (S.ent.length + 1) cap5)) (E' := (S.ent.take p ++ (k, (L.length : Int) + 1) :: S.ent.drop p)) hk8 (by exact hb8) (by exact hS8) (fun g' hg' => by
        have e1 : g5 = g' := Option.some.inj hg'
        subst e1
        rcases hg5 with h | h
        · exact .inl h
        · exact .inr h)
      (fun y hy => by
        rcases List.mem_append.1 hy with hy | hy
        · exact HMr.out.ids y (List.mem_of_mem_take hy)
        · rcases List.mem_cons.1 hy with rfl | hy
          · exact ⟨L.length, ⟨g3, cv3, List.replicate l.length 0, true, (hidN S.d.timer : Nat), false⟩, rfl, by rw [List.getElem?_append_right (Nat.le_refl _), Nat.sub_self]; rfl, by rw [← HLV.out]; simp⟩
          · exact HMr.out.ids y (List.mem_of_mem_drop hy))
      (by
        rw [List.map_append, List.map_cons]
        have hnd := HMr.out.nd
        have hsp : S.ent.map (·.1) = (S.ent.take p).map (·.1) ++ (S.ent.drop p).map (·.1) := by rw [← List.map_append, List.take_append_drop]
        rw [hsp, List.nodup_append] at hnd
        rw [List.nodup_append, List.nodup_cons]
        refine ⟨hnd.1, ⟨fun hm => ?_, hnd.2.1⟩, fun a ha b hb e => ?_⟩
        · obtain ⟨y, hy, e⟩ := List.mem_map.1 hm
          exact hnin y (List.mem_of_mem_drop hy) e
        · rcases List.mem_cons.1 hb with rfl | hb
          · obtain ⟨y, hy, e2⟩ := List.mem_map.1 ha
            exact hnin y (List.mem_of_mem_take hy) (e2.trans e)
          · exact hnd.2.2 a ha b hb e)
      (by simp; omega)
    have HM8 := Lib.hid hM8
    have HK8 := Lib.hid hk8
    clear hS8 hcs8 hk78 hk8 hb8 hM8 hb6c hb7c q0 q1 q2 q3 hl7 hcv7
    change Exit.then _ _ Exit.normal _ (World.drew ((w7.setCell ⟨g5, p * 2, none⟩ (sV k)).setCell ⟨g5, p * 2 + 1, none⟩ (.int .i64 ((L.length : Int) + 1))))
    generalize (w7.setCell ⟨g5, p * 2, none⟩ (sV k)).setCell ⟨g5, p * 2 + 1, none⟩ (.int .i64 ((L.length : Int) + 1)) = w8 at *
    have c84 : w8.cell? ⟨x.q, 4, none⟩ = some (.bool S.d.timer) := by have := HM8.out.blk.cell 4; simpa [MS.rcells] using this
    have c86 : w8.cell? ⟨x.q, 6, none⟩ = some (.pointer (some ⟨x.mp, 0, none⟩)) := by have := HM8.out.blk.cell 6; simpa [MS.rcells] using this
    have hbv8 : By w8 (.slice A2 l.length c2) l := ((HBV.out.1.kept HK3.out HBV.out.2).kept HKR.out (fun _ _ h => h)).kept HK8.out (fun g hg e => by
      rcases e with e | e
      · exact HBV.out.2 g hg (.inl e)
      · exact HBV.out.2 g hg (.inr (.inl e)))
    obtain ⟨dv, hsl, hdv⟩ := byDrop hbv8 HHH.out hpos
    have HDV := Lib.hid hdv
    clear hdv hbv8
    have hin : (L ++ [(⟨g3, cv3, List.replicate l.length 0, true, (hidN S.d.timer : Nat), false⟩ : Rg)])[L.length]? = some ⟨g3, cv3, List.replicate l.length 0, true, (hidN S.d.timer : Nat), false⟩ := by rw [List.getElem?_append_right (Nat.le_refl _), Nat.sub_self]; rfl
    have HIN := Lib.hid hin
    clear hin
    cases ht : S.d.timer
    case false =>
      have hsl0 : ∀ w' : World, (Instr.sliceAt 39 (.slice A2 l.length c2) (some (.int .i64 0)) none none).run Tryz.prog w' = .ok dv w' := fun w' => by have := hsl w'; rw [ht] at this; exact this
      have hdv := HDV.out
      have hhh := HHH.out
      have HTT := Lib.hid ht
      rw [ht] at c84 hdv hhh
      have HDV2 := Lib.hid hdv
      have HHH2 := Lib.hid hhh
      clear hsl hdv hhh ht
      go_wp2_with fail
      refine wp_region_mix0 [.w, .w, .w, .l, .w, .w, .w, .w, .w, .t] (by kernel_rfl) (by kernel_rfl) ?_
      repeat (first
        | (refine mix_w1 ?_; go_big_quiet_step (fail); refine wpQuiet_nil ?_)
        | (refine mix_l1 rfl ?_; go_big_quiet_step (fail); refine wpQuiet_nil ?_))
      have hle2 : 0 + (l.drop 0).length ≤ (List.replicate l.length (0 : UInt8)).length := by have : 0 ≤ l.length := HHH2.out; rw [List.length_drop, List.length_replicate]; omega
      have hset := rset_in x.mp v3 _ L.length 0 dv (l.drop 0) w8.drew.drew HM8.out.drew.drew.mem HIN.out HDV2.out.drew.drew hle2 (by rw [List.length_replicate]; exact hpos)
      have HSET := Lib.hid hset
      clear hset
      refine mix_t fun Q' hQ' => ?_
      go_wp2_with fail
      refine HSET.out.mono ?_
      rintro e w9 ⟨rfl, hM9, hB9, hk9⟩
      have h9 := HM8.out.drew.drew.memory0 hk9 (bv_in HIN.out) hM9 hB9 (set_over HIN.out _ (by have : 0 ≤ l.length := HHH2.out; simp <;> omega))
      have hbe : (List.replicate l.length (0 : UInt8)).take 0 ++ l.drop 0 ++ (List.replicate l.length (0 : UInt8)).drop (0 + (l.drop 0).length) = List.replicate (hidN S.d.timer) 0 ++ l.drop (hidN S.d.timer) := by
        have h1 : 0 ≤ l.length := HHH2.out
        have hd : (List.replicate l.length (0 : UInt8)).drop (0 + (l.drop 0).length) = [] := List.drop_of_length_le (by rw [List.length_drop, List.length_replicate]; omega)
        rw [hd, List.append_nil, List.take_replicate, Nat.min_eq_left h1, show hidN S.d.timer = 0 by rw [HTT.out]; rfl]
      have hll : (L ++ [(⟨g3, cv3, List.replicate l.length 0, true, (hidN S.d.timer : Nat), false⟩ : Rg)]).set L.length { (⟨g3, cv3, List.replicate l.length 0, true, (hidN S.d.timer : Nat), false⟩ : Rg) with b := (List.replicate l.length (0 : UInt8)).take 0 ++ l.drop 0 ++ (List.replicate l.length (0 : UInt8)).drop (0 + (l.drop 0).length) } = L ++ [⟨g3, cv3, List.replicate (hidN S.d.timer) 0 ++ l.drop (hidN S.d.timer), true, (hidN S.d.timer : Nat), false⟩] := by
        rw [List.set_append_right (h := Nat.le_refl _), Nat.sub_self, hbe]
        rfl
      have HBV9 := Lib.hid (bv_in (p := x.mp) (v := v3) HIN.out)
      rw [hll] at h9 hB9
      have H9 := Lib.hid (And.intro h9 (And.intro hB9 hk9))
      clear h9 hB9 hk9 hM9 hbe hll hle2
      go_wp2_with fail
      refine mix_nil ?_
      go_wp2_with fail
      go_ret
      have hsz := HK3.out.size
      refine ⟨rfl, v3, (.slice (some ⟨g5, 0, none⟩) (S.ent.length + 1) cap5), g3, cv3, p, H9.out.1, ⟨hp, HALL.out, fun z hz => by have := HSTOP.out z hz; omega⟩, fun n hn => ?_, ?_⟩
      · rcases hn with hn | hn | hn | hn
        · exact .inl (.inl hn)
        · have e1 : g5 = n := Option.some.inj hn
          subst e1
          rcases hg5 with h | h
          · exact .inl (.inr (.inl h))
          · have h1 : wr.heap.size ≤ g5 := h
            have h2 := HKR.out.size
            exact .inr (by omega)
        · exact .inl (.inr (.inr (.inl hn)))
        · exact HFP3.out n (.inr (.inr (.inr (by rw [← H9.out.2.1]; exact hn))))
      · refine ((HK3.out.trans HKR.out (fun _ _ h => h.elim)).trans HK8.out.drew.drew (fun n hn e => ?_)).trans ((H9.out.2.2)) (fun n hn e => ?_)
        · rcases e with e | e
          · exact .inl e
          · exact .inr (.inl e)
        · rcases HFP3.out n (.inr (.inr (.inr (HBV9.out n e)))) with e2 | e2
          · exact e2
          · omega
    case true =>
      have hsl0 : ∀ w' : World, (Instr.sliceAt 39 (.slice A2 l.length c2) (some (.int .i64 16)) none none).run Tryz.prog w' = .ok dv w' := fun w' => by have := hsl w'; rw [ht] at this; exact this
      have hdv := HDV.out
      have hhh := HHH.out
      have HTT := Lib.hid ht
      rw [ht] at c84 hdv hhh
      have HDV2 := Lib.hid hdv
      have HHH2 := Lib.hid hhh
      clear hsl hdv hhh ht
      go_wp2_with fail
      refine wp_region_mix0 [.w, .w, .w, .l, .w, .w, .w, .w, .w, .t] (by kernel_rfl) (by kernel_rfl) ?_
      repeat (first
        | (refine mix_w1 ?_; go_big_quiet_step (fail); refine wpQuiet_nil ?_)
        | (refine mix_l1 rfl ?_; go_big_quiet_step (fail); refine wpQuiet_nil ?_))
      have hle2 : 16 + (l.drop 16).length ≤ (List.replicate l.length (0 : UInt8)).length := by have : 16 ≤ l.length := HHH2.out; rw [List.length_drop, List.length_replicate]; omega
      have hset := rset_in x.mp v3 _ L.length 16 dv (l.drop 16) w8.drew.drew HM8.out.drew.drew.mem HIN.out HDV2.out.drew.drew hle2 (by rw [List.length_replicate]; exact hpos)
      have HSET := Lib.hid hset
      clear hset
      refine mix_t fun Q' hQ' => ?_
      go_wp2_with fail
      refine HSET.out.mono ?_
      rintro e w9 ⟨rfl, hM9, hB9, hk9⟩
      have h9 := HM8.out.drew.drew.memory0 hk9 (bv_in HIN.out) hM9 hB9 (set_over HIN.out _ (by have : 16 ≤ l.length := HHH2.out; simp <;> omega))
      have hbe : (List.replicate l.length (0 : UInt8)).take 16 ++ l.drop 16 ++ (List.replicate l.length (0 : UInt8)).drop (16 + (l.drop 16).length) = List.replicate (hidN S.d.timer) 0 ++ l.drop (hidN S.d.timer) := by
        have h1 : 16 ≤ l.length := HHH2.out
        have hd : (List.replicate l.length (0 : UInt8)).drop (16 + (l.drop 16).length) = [] := List.drop_of_length_le (by rw [List.length_drop, List.length_replicate]; omega)
        rw [hd, List.append_nil, List.take_replicate, Nat.min_eq_left h1, show hidN S.d.timer = 16 by rw [HTT.out]; rfl]
      have hll : (L ++ [(⟨g3, cv3, List.replicate l.length 0, true, (hidN S.d.timer : Nat), false⟩ : Rg)]).set L.length { (⟨g3, cv3, List.replicate l.length 0, true, (hidN S.d.timer : Nat), false⟩ : Rg) with b := (List.replicate l.length (0 : UInt8)).take 16 ++ l.drop 16 ++ (List.replicate l.length (0 : UInt8)).drop (16 + (l.drop 16).length) } = L ++ [⟨g3, cv3, List.replicate (hidN S.d.timer) 0 ++ l.drop (hidN S.d.timer), true, (hidN S.d.timer : Nat), false⟩] := by
        rw [List.set_append_right (h := Nat.le_refl _), Nat.sub_self, hbe]
        rfl
      have HBV9 := Lib.hid (bv_in (p := x.mp) (v := v3) HIN.out)
      rw [hll] at h9 hB9
      have H9 := Lib.hid (And.intro h9 (And.intro hB9 hk9))
      clear h9 hB9 hk9 hM9 hbe hll hle2
      go_wp2_with fail
      refine mix_nil ?_
      go_wp2_with fail
      go_ret
      have hsz := HK3.out.size
      refine ⟨rfl, v3, (.slice (some ⟨g5, 0, none⟩) (S.ent.length + 1) cap5), g3, cv3, p, H9.out.1, ⟨hp, HALL.out, fun z hz => by have := HSTOP.out z hz; omega⟩, fun n hn => ?_, ?_⟩
      · rcases hn with hn | hn | hn | hn
        · exact .inl (.inl hn)
        · have e1 : g5 = n := Option.some.inj hn
          subst e1
          rcases hg5 with h | h
          · exact .inl (.inr (.inl h))
          · have h1 : wr.heap.size ≤ g5 := h
            have h2 := HKR.out.size
            exact .inr (by omega)
        · exact .inl (.inr (.inr (.inl hn)))
        · exact HFP3.out n (.inr (.inr (.inr (by rw [← H9.out.2.1]; exact hn))))
      · refine ((HK3.out.trans HKR.out (fun _ _ h => h.elim)).trans HK8.out.drew.drew (fun n hn e => ?_)).trans ((H9.out.2.2)) (fun n hn e => ?_)
        · rcases e with e | e
          · exact .inl e
          · exact .inr (.inl e)
        · rcases HFP3.out n (.inr (.inr (.inr (HBV9.out n e)))) with e2 | e2
          · exact e2
          · omega

end Go.Proofs.YtahabogjfcdjkaaGreat

import Derived.Test.YtdchmelgaljpfaaGreatJl
set_option linter.unusedSimpArgs false
set_option linter.unusedVariables false
namespace Go.Proofs.YtdchmelgaljpfaaGreat
open Go.RowKit

/-! ### what slots without a fault are -/
theorem scan_zero {l : List In} : ∀ (n i : Nat), scanC l i n = 0 → ∀ k, i ≤ k → k < i + n → slotC l k = 0
  | 0, i, _, k, h1, h2 => by omega
  | n + 1, i, h, k, h1, h2 => by
    unfold scanC at h
    by_cases hz : slotC l i = 0
    · rw [if_pos hz] at h
      rcases Nat.eq_or_lt_of_le h1 with rfl | hlt
      · exact hz
      · exact scan_zero n (i + 1) h k hlt (by omega)
    · rw [if_neg hz] at h
      exact absurd h hz
theorem slots_zero {l : List In} (h : slotsC l = 0) : 1 ≤ l.length ∧ l.length ≤ 4096 ∧ ∀ i, i < l.length → slotC l i = 0 := by
  unfold slotsC at h
  split at h
  · cases h
  · rename_i hc
    exact ⟨by omega, by omega, fun i hi => scan_zero l.length 0 h i (by omega) (by omega)⟩
theorem slot_wrong {l : List In} {i : Nat} {x : In} (hx : l[i]? = some x) (hs : (secL l)[i]? = some false) : slotC l i = wrongC l i x := by
  unfold slotC
  rw [hx, hs]
theorem wrong_rest {l : List In} {i : Nat} {x : In} (h : wrongC l i x = 0) : knownB x = true ∧ ((decide (10 < x.dst) || decide (10 < x.src)) || (x.dst == 10 && writesB x)) = false ∧ (x.op == 24 && !wholeB l i) = false ∧ restC l i x = 0 := by
  unfold wrongC at h
  split at h
  · cases h
  · rename_i h1
    split at h
    · cases h
    · rename_i h2
      split at h
      · cases h
      · rename_i h3
        exact ⟨by simpa using h1, by simpa using h2, by simpa using h3, h⟩
theorem call_rng {l : List In} {t : Int} (h : callC l t = 0) : 1 ≤ t ∧ t < l.length ∧ (secL l)[t.toNat]? = some false := by
  unfold callC at h
  split at h
  · cases h
  · split at h
    · cases h
    · split at h
      · cases h
      · rename_i h1 h2 h3
        refine ⟨by omega, by omega, ?_⟩
        obtain ⟨b, hb⟩ : ∃ b, (secL l)[t.toNat]? = some b := ⟨_, List.getElem?_eq_getElem (by rw [sec_len]; omega)⟩
        cases b
        · exact hb
        · exact absurd hb h3
theorem tgt_rng {l : List In} (h : slotsC l = 0) {i : Nat} {t : Int} (ht : tgtC l i = some t) : 1 ≤ t ∧ t < l.length ∧ (secL l)[t.toNat]? = some false := by
  obtain ⟨_, _, hz⟩ := slots_zero h
  unfold tgtC at ht
  split at ht
  · rename_i x hx hs
    split at ht
    · rename_i hc
      cases ht
      have hi := (List.getElem?_eq_some_iff.1 hx).1
      have hw := hz i hi
      rw [slot_wrong hx hs] at hw
      have hr := (wrong_rest hw).2.2.2
      unfold restC at hr
      rw [if_pos hc] at hr
      exact call_rng hr
    · cases ht
  · cases ht
theorem begins_ok {l : List In} (h : slotsC l = 0) : (beginsL l).Pairwise (· < ·) ∧ (∀ t, t ∈ beginsL l ↔ t = 0 ∨ ∃ i, i < l.length ∧ tgtC l i = some t) ∧ ∀ t ∈ beginsL l, 0 ≤ t ∧ t < l.length ∧ (secL l)[t.toNat]? = some false := by
  obtain ⟨h1, h2⟩ := compact_ok (sortL_ok (0 :: tgtsL l l.length)).1
  have hmem : ∀ t, t ∈ beginsL l ↔ t = 0 ∨ ∃ i, i < l.length ∧ tgtC l i = some t := fun t => by
    unfold beginsL
    rw [h2, (sortL_ok _).2, List.mem_cons]
    unfold tgtsL
    rw [List.mem_filterMap]
    simp only [List.mem_range]
  refine ⟨h1, hmem, fun t ht => ?_⟩
  obtain ⟨hl, _, _⟩ := slots_zero h
  rcases (hmem t).1 ht with rfl | ⟨i, _, hi⟩
  · exact ⟨Int.le_refl _, by omega, sec_zero (by omega)⟩
  · obtain ⟨a, b, c⟩ := tgt_rng h hi
    exact ⟨by omega, b, c⟩
theorem begins_len (l : List In) : (beginsL l).length ≤ l.length + 1 := by
  unfold beginsL
  have h1 := Lib.compact_length_le (sortL (0 :: tgtsL l l.length))
  have h2 : (sortL (0 :: tgtsL l l.length)).length = (tgtsL l l.length).length + 1 := by unfold sortL; rw [List.length_mergeSort]; rfl
  have := tgts_len l l.length
  omega
def partsL (l : List In) : List Pt2 := partsOf (beginsL l) l.length
theorem parts_len (l : List In) : (partsL l).length = (beginsL l).length := by simp [partsL, partsOf]
theorem parts_at {l : List In} {i : Nat} {p : Pt2} (hp : (partsL l)[i]? = some p) : i < (beginsL l).length ∧ p = partAt (beginsL l) l.length i := by
  unfold partsL partsOf at hp
  rw [List.getElem?_map] at hp
  obtain ⟨j, hj, e⟩ := Option.map_eq_some_iff.1 hp
  have hi := (List.getElem?_eq_some_iff.1 hj).1
  rw [List.length_range] at hi
  rw [range_take _ _ hi] at hj
  cases hj
  exact ⟨hi, e.symm⟩
theorem parts_ok {l : List In} (h : slotsC l = 0) : PtsOk l (partsL l) := by
  obtain ⟨h1, _, h3⟩ := begins_ok h
  refine ⟨fun p hp => ?_⟩
  obtain ⟨i, hi, e⟩ := List.mem_iff_getElem.1 hp
  obtain ⟨hib, rfl⟩ := parts_at (i := i) (p := p) (by rw [List.getElem?_eq_getElem hi, e])
  unfold partAt
  have hg : ∀ k (hk : k < (beginsL l).length), (beginsL l).getD k 0 = (beginsL l)[k] := fun k hk => by rw [List.getD_eq_getElem?_getD, List.getElem?_eq_getElem hk]; rfl
  rw [hg i hib]
  have hb := h3 _ (List.getElem_mem hib)
  by_cases hl : i + 1 < (beginsL l).length
  · rw [if_pos hl, hg _ hl]
    have hb2 := h3 _ (List.getElem_mem hl)
    have := List.pairwise_iff_getElem.1 h1 i (i + 1) hib hl (by omega)
    exact ⟨hb.1, this, by simp only; omega⟩
  · rw [if_neg hl]
    exact ⟨hb.1, hb.2.1, Int.le_refl _⟩

/-! ### Check -/
def checkI (l : List In) : Int := if slotsC l = 0 then (if endedC l (partsL l) = 0 then (if leadsB l (partsL l) = true then 0 else 15) else endedC l (partsL l)) else slotsC l
set_option maxHeartbeats 4000000 in
set_option maxRecDepth 100000 in
theorem icheck_any (l : List In) (a : Option Addr) (c : Nat) (w : World) (h : Ins w (.slice a l.length c) l) (hok : InsOk l) :
    Calls Tryz.prog 16 #[.slice a l.length c] w fun e w' => (∃ p : Int, e = .returned (.tuple #[.int .i64 p, .int .i64 (checkI l)])) ∧ Kept (fun _ => False) w w' := by
  have hlen := hok.len
  have H1 := Lib.hid (fun W hI => second_any l a c W hI hok)
  have H2 := Lib.hid (fun sv W hI hS => slots_any l a c sv W hI hok hS)
  have H3 := Lib.hid (fun sv W hI hS => begins_any l a c sv W hI hok hS)
  have hbl := begins_len l
  have H4 := Lib.hid (fun bv W hB => split_any l.length a c (beginsL l) bv W hB (by omega))
  have HI := Lib.hid (fun (W : World) (hk : Kept (fun _ => False) w W) => h.kept hk)
  obtain ⟨r, hr⟩ : ∃ r, checkI l = r := ⟨_, rfl⟩
  rw [hr]
  unfold checkI at hr
  by_cases hz : slotsC l = 0
  case neg =>
    rw [if_neg hz] at hr
    subst hr
    have hzd : (slotsC l != 0) = true := by simpa using hz
    clear hz
    generalize slotsC l = sc at *
    go_enter Tryz.func16, Tryz.ntmps16
    go_wp2_with fail
    refine (H1.out _ (HI.out _ (Kept.refl _ w))).mono ?_
    rintro e w1 ⟨sv, rfl, hS, hk1, ho1⟩
    go_wp2_with fail
    refine (H2.out _ _ (HI.out _ hk1) hS).mono ?_
    rintro e w2 ⟨⟨p, rfl⟩, hk2⟩
    have hK2 := hk1.trans hk2 (fun _ _ h => h)
    go_wp2_with fail
    go_ret2
    exact ⟨⟨_, rfl⟩, hK2⟩
  case pos =>
    rw [if_pos hz] at hr
    have hpo := parts_ok hz
    have hpl := parts_len l
    have H5 := Lib.hid (fun pv sv W hI hP hS => ended_any l a c (partsL l) pv sv W hI hok hP hpo (by omega) hS)
    have H6 := Lib.hid (fun pv sv W hI hP hS => leads_any l a c (partsL l) pv sv W hI hok hP hpo (by omega) hS)
    rw [hz] at H2
    have hPp : partsOf (beginsL l) l.length = partsL l := rfl
    rw [hPp] at H4
    clear hz hpo hpl hPp hbl
    generalize endedC l (partsL l) = ec at *
    generalize leadsB l (partsL l) = lb at *
    generalize partsL l = P at *
    generalize beginsL l = B at *
    have HR := Lib.hid hr
    clear hr
    go_enter Tryz.func16, Tryz.ntmps16
    go_wp2_with fail
    refine (H1.out _ (HI.out _ (Kept.refl _ w))).mono ?_
    rintro e w1 ⟨sv, rfl, hS, hk1, ho1⟩
    go_wp2_with fail
    refine (H2.out _ _ (HI.out _ hk1) hS).mono ?_
    rintro e w2 ⟨⟨p, rfl⟩, hk2⟩
    have hK2 := hk1.trans hk2 (fun _ _ h => h)
    have hS2 := Sl.kept hk2 hS (fun _ _ h => h)
    go_wp2_with fail
    refine (H3.out _ _ (HI.out _ hK2) hS2).mono ?_
    rintro e w3 ⟨bv, rfl, hB, hk3, ho3⟩
    have hK3 := hK2.trans hk3 (fun _ _ h => h)
    have hS3 := Sl.kept hk3 hS2 (fun _ _ h => h)
    go_wp2_with fail
    refine (H4.out _ _ hB).mono ?_
    rintro e w4 ⟨pv, rfl, hP, hk4, ho4⟩
    have hK4 := hK3.trans hk4 (fun _ _ h => h)
    have hS4 := Sl.kept hk4 hS3 (fun _ _ h => h)
    go_wp2_with fail
    refine (H5.out _ _ _ (HI.out _ hK4) hP hS4).mono ?_
    rintro e w5 ⟨⟨p5, rfl⟩, hk5⟩
    have hK5 := hK4.trans hk5 (fun _ _ h => h)
    have hS5 := Sl.kept hk5 hS4 (fun _ _ h => h)
    have hP5 := Sl.kept hk5 hP (fun _ _ h => h)
    clear hK2 hK3 hK4 hk1 hk2 hk3 hk4 hk5 hS hS2 hS3 hS4 hP hB H1 H2 H3 H4 H5 ho1 ho3 ho4
    by_cases he : ec = 0
    case neg =>
      have hed : (ec != 0) = true := by simpa using he
      have hr := HR.out
      rw [if_neg he] at hr
      subst hr
      clear he HR
      go_wp2_with fail
      go_ret2
      exact ⟨⟨_, rfl⟩, hK5⟩
    case pos =>
      have hr := HR.out
      rw [if_pos he] at hr
      subst he
      have HR2 := Lib.hid hr
      clear hr HR
      go_wp2_with fail
      refine (H6.out _ _ _ (HI.out _ hK5) hP5 hS5).mono ?_
      rintro e w6 ⟨⟨p6, rfl⟩, hk6⟩
      have hK6 := hK5.trans hk6 (fun _ _ h => h)
      clear hK5 hk6
      cases lb
      all_goals
        have hr := HR2.out
        simp only [if_true, if_false, Bool.false_eq_true] at hr
        subst hr
        clear HR2
        go_wp2_with fail
        go_ret2
        exact ⟨⟨_, rfl⟩, hK6⟩

end Go.Proofs.YtdchmelgaljpfaaGreat

import Derived.Test.YtmgdjiplpfeoiaaDoorVh
import Derived.Test.YtmgdjiplpfeoiaaDoorUd
import Derived.Test.YtmgdjiplpfeoiaaDoorTx
set_option linter.unusedSimpArgs false
set_option linter.unusedVariables false
namespace Go.Proofs.YtmgdjiplpfeoiaaDoor
open Go.RowKit

set_option maxHeartbeats 16000000 in
set_option maxRecDepth 100000 in
theorem refcheck_any (l : List Ty) (a : Option Addr) (c : Nat) (w : World) (h : Tys w (.slice a l.length c) l) (hr : Raw l) :
    Calls Tryd.prog 41 #[.slice a l.length c] w fun e w' => e = .returned (.tuple #[.int .i64 (checkL l).1, .int .i64 (checkL l).2]) ∧ Kept (fun _ => False) w w' := by
  have hmx := hr.len
  unfold maxLen at hmx
  by_cases h256 : 256 < l.length
  · have hC : checkL l = (0, 45) := by unfold checkL; rw [if_pos h256]
    go_enter Tryd.func41, Tryd.ntmps41
    go_wp2_with fail
    go_ret2
    exact ⟨by rw [hC]; rfl, Kept.refl _ w⟩
  go_enter Tryd.func41, Tryd.ntmps41
  go_wp2_with fail
  go_loopw [4] (fun iv wr => ∃ j : Nat, iv = .int .i64 j ∧ j ≤ l.length ∧ (l.take j).any (fun t => decide (64 < t.mem.length)) = false ∧ w = wr) (fun iv _ => l.length - (intOf iv).toNat)
  case atStart => exact ⟨0, rfl, Nat.zero_le _, by simp, rfl⟩
  case round =>
    obtain ⟨j, rfl, hj, hany, rfl⟩ := hrel
    by_cases hlt : j < l.length
    case pos =>
      obtain ⟨t, ht⟩ : ∃ t, l[j]? = some t := ⟨_, List.getElem?_eq_getElem hlt⟩
      obtain ⟨g, off, mv, rfl, hgl, hm, c0, c1, c2, c3, c4, c5, c6⟩ := h.at_ ht
      obtain ⟨ma, mc, rfl⟩ := hm.any
      by_cases h64 : 64 < t.mem.length
      · have hC := check_many h256 ht h64
        go_wp2_with fail
        go_ret2
        exact ⟨by rw [hC]; rfl, Kept.refl _ w⟩
      · have hnx : (l.take (j + 1)).any (fun t => decide (64 < t.mem.length)) = false := by
          rw [List.take_add_one, ht, List.any_append, hany]
          simp
          omega
        go_wp2_with fail
        exact ⟨⟨j + 1, by go_num, by omega, hnx, trivial⟩, by simp [intOf]; omega⟩
    case neg =>
      obtain rfl : j = l.length := by omega
      rw [List.take_length] at hany
      have hCE := check_eq h256 hany
      have hf : Fit l := ⟨by omega, fun t ht => by
        rw [List.any_eq_false] at hany
        have := hany t ht
        simpa using this, hr.name, hr.mname⟩
      clear hany
      go_wp2_with fail
      go_loopw [5] (fun iv wx => ∃ j : Nat, iv = .int .i64 j ∧ j ≤ l.length ∧ firstF (pA l) j = none ∧ Kept (fun _ => False) w wx) (fun iv _ => l.length - (intOf iv).toNat)
      case atStart => exact ⟨0, rfl, Nat.zero_le _, rfl, Kept.refl _ w⟩
      case round =>
        obtain ⟨j, rfl, hj, hnone, hK⟩ := hrel
        by_cases hlt : j < l.length
        case pos =>
          obtain ⟨t, ht⟩ : ∃ t, l[j]? = some t := ⟨_, List.getElem?_eq_getElem hlt⟩
          have hpA : pA l j = (aloneC l j t != 0) := by unfold pA; rw [ht]; rfl
          go_wp2_with fail
          refine (refone_any l a c j t wr (h.kept hK) hf ht).mono ?_
          rintro e w2 ⟨rfl, hk2⟩
          by_cases h0 : aloneC l j t = 0
          · have hp : pA l j = false := by rw [hpA, h0]; rfl
            have hnx := firstF_next hnone
            rw [if_neg (by rw [hp]; simp)] at hnx
            rw [h0]
            go_wp2_with fail
            exact ⟨⟨j + 1, by go_num, by omega, hnx, hK.trans hk2 (fun _ _ h => h)⟩, by simp [intOf]; omega⟩
          · have hp : pA l j = true := by rw [hpA]; simpa using h0
            have hC : checkL l = ((j : Int) + 1, aloneC l j t) := by
              rw [hCE, firstF_some hnone hp hlt]
              simp only [ht, Option.map_some, Option.getD_some]
            have e0 : (aloneC l j t != 0) = true := by simpa using h0
            clear h0
            go_wp2_with fail
            go_ret2
            exact ⟨by rw [hC]; rfl, hK.trans hk2 (fun _ _ h => h)⟩
        case neg =>
          obtain rfl : j = l.length := by omega
          have halone : ∀ (i : Nat) (t : Ty), l[i]? = some t → aloneC l i t = 0 := fun i t ht => by
            have := firstF_none hnone (List.getElem?_eq_some_iff.1 ht).1
            unfold pA at this
            rw [ht] at this
            simpa using this
          have hcl := closed_of halone
          rw [hnone] at hCE
          simp only at hCE
          have HAL := Lib.hid halone
          clear halone hnone
          go_wp2_with fail
          go_loopw [7] (fun iv wx => ∃ j : Nat, iv = .int .i64 ((j : Int) + 1) ∧ j ≤ l.length ∧ firstF (pR l) j = none ∧ Kept (fun _ => False) w wx) (fun iv _ => l.length + 1 - (intOf iv).toNat)
          case atStart => exact ⟨0, rfl, Nat.zero_le _, rfl, hK⟩
          case round =>
            clear hK
            obtain ⟨j, rfl, hj, hnone, hK⟩ := hrel
            by_cases hlt : j < l.length
            case pos =>
              go_wp2_with fail
              refine (itself_any l a c j wr (h.kept hK) hf hcl hlt).mono ?_
              rintro e w2 ⟨r, rfl, hr1, hk2⟩
              have hnx := firstF_next hnone
              cases hrr : r with
              | true =>
                have hp : pR l j = true := by unfold pR; simp only [decide_eq_true_eq]; exact hr1.1 hrr
                have hC : checkL l = ((j : Int) + 1, 42) := by rw [hCE]; simp only [firstF_some hnone hp hlt]
                go_wp2_with fail
                go_ret2
                exact ⟨by rw [hC]; rfl, hK.trans hk2 (fun _ _ h => h)⟩
              | false =>
                have hp : pR l j = false := by unfold pR; simp only [decide_eq_false_iff_not]; intro hR; rw [hr1.2 hR] at hrr; cases hrr
                rw [if_neg (by rw [hp]; simp)] at hnx
                have HNX := Lib.hid hnx
                clear hnx hr1
                go_wp2_with fail
                exact ⟨⟨j + 1, by go_num, by omega, HNX.out, hK.trans hk2 (fun _ _ h => h)⟩, by simp [intOf]; omega⟩
            case neg =>
              obtain rfl : j = l.length := by omega
              rw [hnone] at hCE
              simp only at hCE
              have hg : Good l := ⟨hf, acyc_of hcl hnone, HAL.out, hr.bits⟩
              have HCE := Lib.hid hCE
              clear hnone hCE
              go_wp2_with fail
              go_loopw [8] (fun iv wx => ∃ j : Nat, iv = .int .i64 ((j : Int) + 1) ∧ j ≤ l.length ∧ firstF (pF l) j = none ∧ Kept (fun _ => False) w wx) (fun iv _ => l.length + 1 - (intOf iv).toNat)
              case atStart => exact ⟨0, rfl, Nat.zero_le _, rfl, hK⟩
              case round =>
                clear hK
                obtain ⟨j, rfl, hj, hnone, hK⟩ := hrel
                by_cases hlt : j < l.length
                case pos =>
                  as_aux_lemma =>
                  obtain ⟨t, ht⟩ : ∃ t, l[j]? = some t := ⟨_, List.getElem?_eq_getElem hlt⟩
                  have hT := h.kept hK
                  obtain ⟨g, off, mv, rfl, hgl, hm, c0, c1, c2, c3, c4, c5, c6⟩ := hT.at_ ht
                  obtain ⟨ma, mc, rfl⟩ := hm.any
                  have hm64 := hf.mem t (List.mem_of_getElem? ht)
                  have hcl' := hcl
                  have hra : ∀ b ∈ holdsL t, 1 ≤ b ∧ b ≤ (l.length : Int) := fun b hb => hcl ((j : Int) + 1) b (by unfold succL; rw [get_tyAt ht]; exact hb)
                  have hpF : pF l j = functionsB l t := by unfold pF; rw [ht]; rfl
                  have hnx := firstF_next hnone
                  have hbad : functionsB l t = true → checkL l = ((j : Int) + 1, 41) := fun e => by rw [HCE.out]; simp only [firstF_some hnone (hpF.trans e) hlt]
                  have hgood : functionsB l t = false → firstF (pF l) (j + 1) = none := fun e => by rw [hnx, hpF, e]; rfl
                  have HBAD := Lib.hid hbad
                  have HGOOD := Lib.hid hgood
                  have HT := Lib.hid ht
                  clear hnone hpF hnx hbad hgood ht
                  have hhl : (holdsL t).length ≤ 64 := by
                    unfold holdsL
                    split
                    · simp
                    · split
                      · simpa using hm64
                      · simp
                  go_wp2_with fail
                  refine (refholds_any t ma mc wr hm hm64).mono ?_
                  rintro e w2 ⟨ov, rfl, hI, hown, hk2⟩
                  have hT2 := hT.kept hk2
                  have hK2 := hK.trans hk2 (fun _ _ h => h)
                  obtain ⟨g', off', mv', hga, hgl', hm', d0, d1, d2, d3, d4, d5, d6⟩ := hT2.at_ HT.out
                  simp only [Option.some.injEq, Addr.mk.injEq, and_true] at hga
                  obtain ⟨rfl, rfl⟩ := hga
                  clear c0 c1 c2 c3 c4 c5 c6 d1 d2 d3 d4 d5 d6 hm'
                  obtain ⟨oA, oC, hov⟩ := Sl.any hI
                  rw [List.length_map] at hov
                  subst hov
                  by_cases h5 : t.kind = 5
                  · have hfn := HGOOD.out (by unfold functionsB; rw [if_pos h5])
                    have HFN := Lib.hid hfn
                    have e5 : (t.kind != 5) = false := by simpa using h5
                    clear h5 hfn
                    go_wp2_with fail
                    go_loopw [10] (fun kv wx => kv = .int .i64 0 ∧ w2 = wx) (fun _ _ => 0)
                    case atStart => exact ⟨rfl, rfl⟩
                    case round =>
                      obtain ⟨rfl, rfl⟩ := hrel
                      go_wp2_with fail
                      all_goals exact ⟨⟨j + 1, by go_num, by omega, HFN.out, hK2⟩, by simp [intOf]; omega⟩
                  · have hfe : functionsB l t = (holdsL t).any fun to_ => kindAt l (throughL l to_) == 6 := by unfold functionsB; rw [if_neg h5]
                    have HFE := Lib.hid hfe
                    have e5 : (t.kind != 5) = true := by simpa using h5
                    clear h5 hfe
                    go_wp2_with fail
                    go_loopw [10] (fun kv wx => ∃ k : Nat, kv = .int .i64 k ∧ k ≤ (holdsL t).length ∧ ((holdsL t).take k).any (fun to_ => kindAt l (throughL l to_) == 6) = false ∧ w2 = wx) (fun kv _ => (holdsL t).length - (intOf kv).toNat)
                    case atStart => exact ⟨0, rfl, Nat.zero_le _, by simp, rfl⟩
                    case round =>
                      obtain ⟨k, rfl, hk, hany, rfl⟩ := hrel
                      by_cases hkl : k < (holdsL t).length
                      case neg =>
                        obtain rfl : k = (holdsL t).length := by omega
                        rw [List.take_length] at hany
                        have hfn := HGOOD.out (HFE.out.trans hany)
                        have HFN := Lib.hid hfn
                        clear hfn hany
                        go_wp2_with fail
                        exact ⟨⟨j + 1, by go_num, by omega, HFN.out, hK2⟩, by simp [intOf]; omega⟩
                      case pos =>
                        obtain ⟨b, hb⟩ : ∃ b, (holdsL t)[k]? = some b := ⟨_, List.getElem?_eq_getElem hkl⟩
                        obtain ⟨r1, r2⟩ := hra b (List.mem_of_getElem? hb)
                        obtain ⟨k1, rfl⟩ : ∃ k1 : Nat, b = (k1 : Int) + 1 := ⟨(b - 1).toNat, by omega⟩
                        have hk1 : k1 < l.length := by omega
                        obtain ⟨og, ocap, hoe, _, _⟩ := Sl.some_ hI (by simpa using (by omega : 0 < (holdsL t).length))
                        obtain ⟨rfl, -, -⟩ := Value.slice.inj hoe
                        clear hoe
                        have hcb := Ints.cell hI hb
                        obtain ⟨k2, t2, hq1, hq2, hta, hk5⟩ := through_ix hg hk1
                        have hk2l := (List.getElem?_eq_some_iff.1 hq2).1
                        have hkd : kindAt l (throughL l ((k1 : Int) + 1)) = t2.kind := by unfold kindAt; rw [hta]; rfl
                        have hnx : ((holdsL t).take (k + 1)).any (fun to_ => kindAt l (throughL l to_) == 6) = (t2.kind == 6) := by
                          rw [List.take_add_one, hb, List.any_append, hany]
                          simp [hkd]
                        have hbd : (t2.kind == 6) = true → functionsB l t = true := fun e => by
                          rw [HFE.out, List.any_eq_true]
                          exact ⟨_, List.mem_of_getElem? hb, by rw [hkd]; exact e⟩
                        have HNX := Lib.hid hnx
                        have HBD := Lib.hid hbd
                        have HB := Lib.hid hb
                        have HQ2 := Lib.hid hq2
                        obtain ⟨g2, o2, mv2, hga, hgl2, hm2, x0, x1, x2, x3, x4, x5, x6⟩ := hT2.at_ hq2
                        simp only [Option.some.injEq, Addr.mk.injEq, and_true] at hga
                        obtain ⟨rfl, rfl⟩ := hga
                        clear hnx hbd hb hq2 hany hkd x1 x2 x3 x4 x5 x6
                        have hTH := refthrough_any l (some ⟨g, off, none⟩) c k1 w2 hT2 hg hk1
                        rw [hq1] at hTH
                        have HTH := Lib.hid hTH
                        clear hTH hq1 hta
                        cases e6 : (t2.kind == 6) with
                        | false =>
                          go_wp2_with fail
                          refine HTH.out.mono ?_
                          rintro e w3 ⟨rfl, rfl⟩
                          go_wp2_with fail
                          exact ⟨⟨k + 1, by go_num, by omega, by rw [HNX.out, e6], trivial⟩, by simp [intOf]; omega⟩
                        | true =>
                          have hC := HBAD.out (HBD.out e6)
                          go_wp2_with fail
                          refine HTH.out.mono ?_
                          rintro e w3 ⟨rfl, rfl⟩
                          go_wp2_with fail
                          go_ret2
                          exact ⟨by rw [hC]; rfl, hK2⟩
                case neg =>
                  as_aux_lemma =>
                  obtain rfl : j = l.length := by omega
                  have hCE := HCE.out
                  rw [hnone] at hCE
                  simp only at hCE
                  have HCE := Lib.hid hCE
                  clear hCE hnone
                  go_wp2_with fail
                  refine (sizes_any l a c wr (h.kept hK) hg).mono ?_
                  rintro e w1 ⟨nb, M, rfl, hI1, hsz, hnb, hk1⟩
                  have hK1 := hK.trans hk1 (fun _ _ h => h)
                  have HSZ := Lib.hid hsz
                  clear hsz hK
                  go_wp2_with fail
                  go_loopw [12] (fun iv wx => ∃ j : Nat, iv = .int .i64 ((j : Int) + 1) ∧ j ≤ l.length ∧ firstF (pL l) j = none ∧ Ints wx (.slice (some ⟨nb, 0, none⟩) (l.length + 1) (l.length + 1)) M ∧ Kept (fun _ => False) w wx) (fun iv _ => l.length + 1 - (intOf iv).toNat)
                  case atStart => exact ⟨0, rfl, Nat.zero_le _, rfl, hI1, hK1⟩
                  case round =>
                    clear hI1 hK1
                    obtain ⟨j, rfl, hj, hnone, hI, hK⟩ := hrel
                    by_cases hlt : j < l.length
                    case neg =>
                      obtain rfl : j = l.length := by omega
                      have hC : checkL l = (0, 0) := by rw [HCE.out, hnone]
                      go_wp2_with fail
                      go_ret2
                      exact ⟨by rw [hC]; rfl, hK⟩
                    case pos =>
                      obtain ⟨t, ht⟩ : ∃ t, l[j]? = some t := ⟨_, List.getElem?_eq_getElem hlt⟩
                      have hT := h.kept hK
                      obtain ⟨g, off, mv, rfl, hgl, hm, c0, c1, c2, c3, c4, c5, c6⟩ := hT.at_ ht
                      obtain ⟨ma, mc, rfl⟩ := hm.any
                      have hm64 := hf.mem t (List.mem_of_getElem? ht)
                      have hbits := hr.bits t (List.mem_of_getElem? ht)
                      have hpL : pL l j = !laidB l ((j : Int) + 1) t := by unfold pL; rw [ht]; rfl
                      have hnx := firstF_next hnone
                      have hbad : laidB l ((j : Int) + 1) t = false → checkL l = ((j : Int) + 1, 43) := fun e => by rw [HCE.out]; simp only [firstF_some hnone (hpL.trans (by rw [e]; rfl)) hlt]
                      have hgood : laidB l ((j : Int) + 1) t = true → firstF (pL l) (j + 1) = none := fun e => by rw [hnx, hpL, e]; rfl
                      have HBAD := Lib.hid hbad
                      have HGOOD := Lib.hid hgood
                      have hct := Ints.cell hI (HSZ.out j hlt)
                      have hnl := Ints.lt hI
                      have hsr := hg.size_range _ ((j : Int) + 1) (Nat.lt_succ_self _) (by omega) (by omega)
                      have hszd := (hg.sized (get_tyAt ht)).1
                      have hra : t.kind = 4 → ∀ m ∈ t.mem, 1 ≤ m.type ∧ m.type ≤ (l.length : Int) := fun e m hm' => hcl ((j : Int) + 1) m.type (by
                        unfold succL
                        rw [get_tyAt ht]
                        show m.type ∈ holdsL t
                        unfold holdsL
                        rw [if_neg (by omega), if_pos e]
                        exact List.mem_map.2 ⟨m, hm', rfl⟩)
                      have HRA := Lib.hid hra
                      have HBT := Lib.hid hbits
                      have HSD := Lib.hid hszd
                      have HTT := Lib.hid ht
                      have hBn := Blk.new wr 38 (tyVals t (.slice ma t.mem.length mc))
                      have hkA := (Kept.refl (fun _ => False) wr).alloc (.cells (tyVals t (.slice ma t.mem.length mc)) 38)
                      have hIA : Ints _ _ M := Sl.kept hkA hI (fun _ _ h => h)
                      have hKA := hK.alloc (.cells (tyVals t (.slice ma t.mem.length mc)) 38)
                      have hmA := hm.kept hkA
                      clear hnone hpL hnx hbad hgood hra hbits hszd ht
                      by_cases h3 : t.kind = 3
                      · have hl : laidB l ((j : Int) + 1) t = decide (sizeL l ((j : Int) + 1) ≤ 65536) := by unfold laidB; rw [if_pos h3]
                        have HL := Lib.hid hl
                        have e3 : (t.kind == 3) = true := by simpa using h3
                        have e4 : (t.kind == 4) = false := by simp; omega
                        clear h3 hl
                        by_cases hb : 65536 < sizeL l ((j : Int) + 1)
                        · have hC := HBAD.out (HL.out.trans (decide_eq_false (by omega)))
                          go_wp2_with fail
                          go_ret2
                          exact ⟨by rw [hC]; rfl, hKA⟩
                        · have hfn := HGOOD.out (HL.out.trans (decide_eq_true (by omega)))
                          have HFN := Lib.hid hfn
                          clear hfn
                          have b0 := hBn.cell 0
                          have b6 := hBn.cell 6
                          go_wp2_with fail
                          go_loopw [15] (fun kv wx => kv = .int .i64 0 ∧ wr.alloc (.cells (tyVals t (.slice ma t.mem.length mc)) 38) = wx) (fun _ _ => 0)
                          case atStart => exact ⟨rfl, rfl⟩
                          case round =>
                            obtain ⟨rfl, rfl⟩ := hrel
                            go_wp2_with fail
                            all_goals exact ⟨⟨j + 1, by go_num, by omega, HFN.out, hIA, hKA⟩, by simp [intOf]; omega⟩
                      have e3 : (t.kind == 3) = false := by simpa using h3
                      by_cases h4 : t.kind = 4
                      case neg =>
                        have hfn := HGOOD.out (by unfold laidB; rw [if_neg h3, if_neg h4])
                        have HFN := Lib.hid hfn
                        have e4 : (t.kind == 4) = false := by simpa using h4
                        clear hfn h3 h4
                        have b0 := hBn.cell 0
                        have b6 := hBn.cell 6
                        go_wp2_with fail
                        go_loopw [15] (fun kv wx => kv = .int .i64 0 ∧ wr.alloc (.cells (tyVals t (.slice ma t.mem.length mc)) 38) = wx) (fun _ _ => 0)
                        case atStart => exact ⟨rfl, rfl⟩
                        case round =>
                          obtain ⟨rfl, rfl⟩ := hrel
                          go_wp2_with fail
                          all_goals exact ⟨⟨j + 1, by go_num, by omega, HFN.out, hIA, hKA⟩, by simp [intOf]; omega⟩
                      case pos =>
                        have hl : laidB l ((j : Int) + 1) t = laidM l t.size t.mem 0 := by unfold laidB; rw [if_neg h3, if_pos h4]
                        have HL := Lib.hid hl
                        have e4 : (t.kind == 4) = true := by simpa using h4
                        have htz : 0 ≤ t.size ∧ t.size ≤ 65536 := by
                          have := HSD.out
                          unfold sizedB at this
                          rw [if_neg (by omega), if_neg h3, if_pos h4] at this
                          simpa using this
                        have hra := HRA.out h4
                        have HRA2 := Lib.hid hra
                        obtain ⟨tz1, tz2⟩ := htz
                        clear hl h3 h4 hra
                        go_wp2_with fail
                        have hBA := hBn
                        obtain ⟨T, hT0⟩ : ∃ T, wr.heap.size = T := ⟨_, rfl⟩
                        rw [hT0] at hBn ⊢
                        go_loopw [15, 14] (fun kv ev wx => ∃ (k : Nat) (en : Int), kv = .int .i64 k ∧ ev = .int .i64 en ∧ k ≤ t.mem.length ∧ laidM l t.size t.mem 0 = laidM l t.size (t.mem.drop k) en ∧ 0 ≤ en ∧ en ≤ 65536 ∧ Blk wx T 38 (tyVals t (.slice ma t.mem.length mc)) ∧ Ints wx (.slice (some ⟨nb, 0, none⟩) (l.length + 1) (l.length + 1)) M ∧ Kept (fun _ => False) wr wx) (fun kv _ _ => t.mem.length - (intOf kv).toNat)
                        case atStart => exact ⟨0, 0, rfl, rfl, Nat.zero_le _, rfl, by omega, by omega, hBn, hIA, hkA⟩
                        case round =>
                          clear hBn hBA hIA hkA hKA hmA hT0 hct hI hgl c0 c1 c2 c3 c4 c5 c6
                          obtain ⟨k, en, rfl, rfl, hk, hld, he0, he1, hB, hI2, hKr⟩ := hrel
                          have hKx := hK.trans hKr (fun _ _ h => h)
                          have b0 := hB.cell 0
                          have b2 := hB.cell 2
                          have b6 := hB.cell 6
                          by_cases hlt2 : k < t.mem.length
                          case neg =>
                            obtain rfl : k = t.mem.length := by omega
                            have hfn := HGOOD.out (by rw [HL.out, hld, List.drop_length]; rfl)
                            have HFN := Lib.hid hfn
                            clear hfn hld
                            go_wp2_with fail
                            exact ⟨⟨j + 1, by go_num, by omega, HFN.out, hI2, hKx⟩, by simp [intOf]; omega⟩
                          case pos =>
                            obtain ⟨m, hmk⟩ : ∃ m, t.mem[k]? = some m := ⟨_, List.getElem?_eq_getElem hlt2⟩
                            have hmm := List.mem_of_getElem? hmk
                            obtain ⟨mg, mo, rfl, hmg, m0, m1, m2⟩ := (hm.kept hKr).at_ hmk
                            obtain ⟨r1, r2⟩ := HRA2.out m hmm
                            obtain ⟨bt1, bt2⟩ := HBT.out m hmm
                            obtain ⟨k1, hk1⟩ : ∃ k1 : Nat, m.type = (k1 : Int) + 1 := ⟨(m.type - 1).toNat, by omega⟩
                            have hstep : laidM l t.size t.mem 0 = (!(decide (m.bits < 0) || m.bits % 8 != 0 || decide (m.bits / 8 < en) || decide (t.size < m.bits / 8) || decide (t.size - m.bits / 8 < sizeL l m.type)) && laidM l t.size (t.mem.drop (k + 1)) (m.bits / 8 + sizeL l m.type)) := by
                              rw [hld, List.drop_eq_getElem_cons hlt2, (List.getElem?_eq_some_iff.1 hmk).2]
                              rfl
                            have hcm := Ints.cell hI2 (HSZ.out k1 (by omega))
                            have hsm := hg.size_range _ ((k1 : Int) + 1) (Nat.lt_succ_self _) (by omega) (by omega)
                            rw [hk1] at m1 hstep r1 r2
                            generalize hzz : sizeL l ((k1 : Int) + 1) = z at *
                            have hzk : k1 < l.length := by omega
                            clear hld hmk hmm hk1 hzz m0 r1 r2
                            have hnb2 := Ints.lt hI2
                            have hTl := hB.lt
                            by_cases n0 : m.bits < 0
                            · have hC := HBAD.out (HL.out.trans (hstep.trans (by rw [decide_eq_true n0]; simp)))
                              clear hstep
                              go_wp2_with fail
                              refine wp_region_mix0 [.w, .w, .w, .w, .w, .w, .w, .w, .w, .w, .w, .w, .w, .w, .w, .w, .w, .l, .w, .w, .w, .w, .w, .l, .w, .w, .w, .l, .w, .l, .w, .l, .w, .w, .w, .w, .w] (by kernel_rfl) (by kernel_rfl) ?_
                              repeat (first
                                | (refine mix_w1 ?_; go_big_quiet_step (fail); refine wpQuiet_nil ?_)
                                | (refine mix_l1 rfl ?_; go_big_quiet_step (fail); refine wpQuiet_nil ?_))
                              refine mix_nil ?_
                              go_wp2_with fail
                              go_ret2
                              exact ⟨by rw [hC]; rfl, hKx.drew⟩
                            have f0 : decide (m.bits < 0) = false := decide_eq_false n0
                            rw [f0] at hstep
                            have hq : m.bits.tdiv 8 = m.bits / 8 := Int.tdiv_eq_ediv_of_nonneg (by omega)
                            have hr : m.bits.tmod 8 = m.bits % 8 := Int.tmod_eq_emod_of_nonneg (by omega)
                            rw [← hq, ← hr] at hstep
                            have hq0 : 0 ≤ m.bits.tdiv 8 := by rw [hq]; omega
                            have hq1 : m.bits.tdiv 8 ≤ 9223372036854775807 := by rw [hq]; omega
                            clear hq hr n0
                            generalize hqq : m.bits.tdiv 8 = q at *
                            generalize hrr : m.bits.tmod 8 = r at *
                            by_cases n1 : r = 0
                            case neg =>
                              have f1 : (r != 0) = true := by simpa using n1
                              have hC := HBAD.out (HL.out.trans (hstep.trans (by rw [f1]; simp)))
                              clear hstep n1
                              go_wp2_with fail
                              refine wp_region_mix0 [.w, .w, .w, .w, .w, .w, .w, .w, .w, .w, .w, .w, .w, .w, .w, .w, .w, .l, .w, .w, .w, .w, .w, .l, .w, .w, .w, .l, .w, .l, .w, .l, .w, .w, .w, .w, .w] (by kernel_rfl) (by kernel_rfl) ?_
                              repeat (first
                                | (refine mix_w1 ?_; go_big_quiet_step (fail); refine wpQuiet_nil ?_)
                                | (refine mix_l1 rfl ?_; go_big_quiet_step (fail); refine wpQuiet_nil ?_))
                              refine mix_nil ?_
                              go_wp2_with fail
                              go_ret2
                              exact ⟨by rw [hC]; rfl, hKx.drew⟩
                            have f1 : (r != 0) = false := by simpa using n1
                            rw [f1] at hstep
                            clear n1
                            by_cases n2 : q < en
                            · have f2 : decide (q < en) = true := decide_eq_true n2
                              have hC := HBAD.out (HL.out.trans (hstep.trans (by rw [f2]; simp)))
                              clear hstep n2
                              go_wp2_with fail
                              refine wp_region_mix0 [.w, .w, .w, .w, .w, .w, .w, .w, .w, .w, .w, .w, .w, .w, .w, .w, .w, .l, .w, .w, .w, .w, .w, .l, .w, .w, .w, .l, .w, .l, .w, .l, .w, .w, .w, .w, .w] (by kernel_rfl) (by kernel_rfl) ?_
                              repeat (first
                                | (refine mix_w1 ?_; go_big_quiet_step (fail); refine wpQuiet_nil ?_)
                                | (refine mix_l1 rfl ?_; go_big_quiet_step (fail); refine wpQuiet_nil ?_))
                              refine mix_nil ?_
                              go_wp2_with fail
                              go_ret2
                              exact ⟨by rw [hC]; rfl, hKx.drew⟩
                            have f2 : decide (q < en) = false := decide_eq_false n2
                            by_cases n3 : t.size < q
                            · have f3 : decide (t.size < q) = true := decide_eq_true n3
                              have hC := HBAD.out (HL.out.trans (hstep.trans (by rw [f3]; simp)))
                              clear hstep n3
                              go_wp2_with fail
                              refine wp_region_mix0 [.w, .w, .w, .w, .w, .w, .w, .w, .w, .w, .w, .w, .w, .w, .w, .w, .w, .l, .w, .w, .w, .w, .w, .l, .w, .w, .w, .l, .w, .l, .w, .l, .w, .w, .w, .w, .w] (by kernel_rfl) (by kernel_rfl) ?_
                              repeat (first
                                | (refine mix_w1 ?_; go_big_quiet_step (fail); refine wpQuiet_nil ?_)
                                | (refine mix_l1 rfl ?_; go_big_quiet_step (fail); refine wpQuiet_nil ?_))
                              refine mix_nil ?_
                              go_wp2_with fail
                              go_ret2
                              exact ⟨by rw [hC]; rfl, hKx.drew⟩
                            have f3 : decide (t.size < q) = false := decide_eq_false n3
                            by_cases n4 : t.size - q < z
                            · have f4 : decide (t.size - q < z) = true := decide_eq_true n4
                              have hC := HBAD.out (HL.out.trans (hstep.trans (by rw [f4]; simp)))
                              clear hstep n4
                              go_wp2_with fail
                              refine wp_region_mix0 [.w, .w, .w, .w, .w, .w, .w, .w, .w, .w, .w, .w, .w, .w, .w, .w, .w, .l, .w, .w, .w, .w, .w, .l, .w, .w, .w, .l, .w, .l, .w, .l, .w, .w, .w, .w, .w] (by kernel_rfl) (by kernel_rfl) ?_
                              repeat (first
                                | (refine mix_w1 ?_; go_big_quiet_step (fail); refine wpQuiet_nil ?_)
                                | (refine mix_l1 rfl ?_; go_big_quiet_step (fail); refine wpQuiet_nil ?_))
                              refine mix_nil ?_
                              go_wp2_with fail
                              go_ret2
                              exact ⟨by rw [hC]; rfl, hKx.drew⟩
                            have HZ := Lib.hid (show 0 ≤ q + z ∧ q + z ≤ 65536 by omega)
                            have hqz0 : 0 ≤ q + z := HZ.out.1
                            have hqz1 : q + z ≤ 65536 := HZ.out.2
                            have f4 : decide (t.size - q < z) = false := decide_eq_false n4
                            rw [f2, f3, f4] at hstep
                            simp only [Bool.false_or, Bool.not_false, Bool.true_and] at hstep
                            have HST := Lib.hid hstep
                            clear hstep n2 n3 n4
                            go_wp2_with fail
                            refine wp_region_mix0 [.w, .w, .w, .w, .w, .w, .w, .w, .w, .w, .w, .w, .w, .w, .w, .w, .w, .l, .w, .w, .w, .w, .w, .l, .w, .w, .w, .l, .w, .l, .w, .l, .w, .w, .w, .w, .w] (by kernel_rfl) (by kernel_rfl) ?_
                            repeat (first
                              | (refine mix_w1 ?_; go_big_quiet_step (fail); refine wpQuiet_nil ?_)
                              | (refine mix_l1 rfl ?_; go_big_quiet_step (fail); refine wpQuiet_nil ?_))
                            refine mix_nil ?_
                            go_wp2_with fail
                            exact ⟨⟨k + 1, q + z, by go_num, by go_num, by omega, HST.out, HZ.out.1, HZ.out.2, hB, Sl.drew hI2, hKr.drew⟩, by simp [intOf]; omega⟩

end Go.Proofs.YtmgdjiplpfeoiaaDoor

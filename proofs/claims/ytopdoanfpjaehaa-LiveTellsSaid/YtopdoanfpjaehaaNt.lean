import Derived.Test.YtopdoanfpjaehaaNs
import Derived.Test.YtopdoanfpjaehaaKfi
set_option linter.unusedSimpArgs false
set_option linter.unusedVariables false
namespace Go.Proofs.Ytopdoanfpjaehaa
open Go.RowKit

/-! ### LiveTells -/
set_option maxHeartbeats 16000000 in
set_option maxRecDepth 100000 in
theorem walk_tells (l : List In) (a : Option Addr) (c : Nat) (x : In) (w : World) (h : Ins w (.slice a l.length c) l) (hokx : ∀ x ∈ l, InOk x) (hx : InOk x) :
    Calls Try.prog 4 #[.slice a l.length c, .agg (inVals x)] w fun e w' => e = .returned (.bool true) ∧ Kept (fun _ => False) w w' := by
  have HKW := Lib.hid (fun W => known_any W)
  have hbB := Blk.new w 26 (inVals x)
  have hkB : Kept (fun _ => False) w (w.alloc (.cells (inVals x) 26)) := (Kept.refl _ w).alloc _
  by_cases h120 : 120 < l.length
  · have hd : decide ((120 : Int) < l.length) = true := decide_eq_true (by omega)
    clear h120 h hokx
    go_enter Try.func4, Try.ntmps4
    go_wp2_with fail
    refine (HKW.out _).mono ?_
    rintro e w1 ⟨rfl, hk1⟩
    go_wp2_with fail
    go_ret
    exact ⟨rfl, hkB.trans hk1 (fun _ _ h => h)⟩
  · have hd : decide ((120 : Int) < l.length) = false := decide_eq_false (by omega)
    have hok : InsOk l := ⟨by omega, hokx⟩
    have HIN := Lib.hid (fun (W : World) (hk : Kept (fun _ => False) w W) => h.kept hk)
    have HR1 := Lib.hid (fun W => lReads_any x W hx)
    have HR2 := Lib.hid (fun W => rReads_any x W hx)
    have HW1 := Lib.hid (fun W => lWrites_any x W hx)
    have HW2 := Lib.hid (fun W => rWrites_any x W hx)
    have HL1 := Lib.hid (fun W hI => lLive_any l a c W hI hok)
    have HL2 := Lib.hid (fun W hI => rLive_any l a c W hI hok)
    have HD1 := Lib.hid (fun W hI => lDead_any l a c W hI hok)
    have HD2 := Lib.hid (fun W hI => rDead_any l a c W hI hok)
    have hb1 : (readsR x : Int) = readsR x := rfl
    generalize readsR x = rx at *
    generalize writesR x = wx at *
    generalize rightB x = gx at *
    have hne1 : ((rx : Int) != (rx : Int)) = false := by simp
    have hne2 : ((wx : Int) != (wx : Int)) = false := by simp
    have hne3 : (gx != gx) = false := by simp
    have hcc : (checkI l != checkI l) = false := by simp
    have hce : (checkI l == checkI l) = true := by simp
    have H120 := Lib.hid (show l.length ≤ 120 by omega)
    clear h h120 hb1
    go_enter Try.func4, Try.ntmps4
    go_wp2_with fail
    refine (HKW.out _).mono ?_
    rintro e w1 ⟨rfl, hk1⟩
    have hb1 := hk1.blk (fun h => h) hbB
    have hK1 := hkB.trans hk1 (fun _ _ h => h)
    have x0 := hb1.cell 0
    have x1 := hb1.cell 1
    have x2 := hb1.cell 2
    have x3 := hb1.cell 3
    have x4 := hb1.cell 4
    go_wp2_with fail
    refine (HR1.out _).mono ?_
    rintro e w2 ⟨rfl, hk2⟩
    have hb2 := hk2.blk (fun h => h) hb1
    have hK2 := hK1.trans hk2 (fun _ _ h => h)
    clear x0 x1 x2 x3 x4
    have x0 := hb2.cell 0
    have x1 := hb2.cell 1
    have x2 := hb2.cell 2
    have x3 := hb2.cell 3
    have x4 := hb2.cell 4
    go_wp2_with fail
    refine (HR2.out _).mono ?_
    rintro e w3 ⟨rfl, hk3⟩
    have hb3 := hk3.blk (fun h => h) hb2
    have hK3 := hK2.trans hk3 (fun _ _ h => h)
    clear x0 x1 x2 x3 x4
    have x0 := hb3.cell 0
    have x1 := hb3.cell 1
    have x2 := hb3.cell 2
    have x3 := hb3.cell 3
    have x4 := hb3.cell 4
    go_wp2_with fail
    refine (HW1.out _).mono ?_
    rintro e w4 ⟨rfl, hk4⟩
    have hb4 := hk4.blk (fun h => h) hb3
    have hK4 := hK3.trans hk4 (fun _ _ h => h)
    clear x0 x1 x2 x3 x4
    have x0 := hb4.cell 0
    have x1 := hb4.cell 1
    have x2 := hb4.cell 2
    have x3 := hb4.cell 3
    have x4 := hb4.cell 4
    go_wp2_with fail
    refine (HW2.out _).mono ?_
    rintro e w5 ⟨rfl, hk5⟩
    have hK5 := hK4.trans hk5 (fun _ _ h => h)
    clear x0 x1 x2 x3 x4 hb1 hb2 hb3 hb4 hbB hkB hk1 hk2 hk3 hk4 hk5 hK1 hK2 hK3 hK4 HR1 HR2 HW1 HW2 HKW
    go_wp2_with fail
    refine (HL1.out _ (HIN.out _ hK5)).mono ?_
    rintro e w6 ⟨v1, rfl, hv1, hv1n, hk6, -⟩
    have hK6 := hK5.trans hk6 (fun _ _ h => h)
    have HV1 := Lib.hid hv1
    have HV1n := Lib.hid hv1n
    clear hv1 hv1n
    go_wp2_with fail
    refine (HL2.out _ (HIN.out _ hK6)).mono ?_
    rintro e w7 ⟨v2, rfl, hv2, hv2n, hk7, -⟩
    have hK7 := hK6.trans hk7 (fun _ _ h => h)
    have HV2 := Lib.hid hv2
    have HV2n := Lib.hid hv2n
    clear hv2 hv2n
    have hrows : Hid (∃ L : List Nat, U16s w7 v1 L ∧ U16s w7 v2 L ∧ L.length ≤ 120) := Lib.hid (by
      by_cases hz : checkI l = 0
      · obtain ⟨L, hL, hU⟩ := HV1.out hz
        obtain ⟨M, hM, hV⟩ := HV2.out hz
        rw [hM.unique hL] at hV
        exact ⟨L, Sl.kept hk7 hU (fun _ _ h => h), hV, by rw [hL.len]; exact H120.out⟩
      · rw [HV1n.out hz, HV2n.out hz]
        exact ⟨[], Sl.nil _ _ _, Sl.nil _ _ _, by simp⟩)
    obtain ⟨L, hU1, hU2, hLl⟩ := hrows.out
    clear HV1 HV1n HV2 HV2n hrows
    obtain ⟨A1, C1, e1⟩ := Sl.any hU1
    obtain ⟨A2, C2, e2⟩ := Sl.any hU2
    rw [List.length_map] at e1 e2
    subst e1
    subst e2
    have hll : ((L.length : Int) != (L.length : Int)) = false := by simp
    have HL7 := Lib.hid hLl
    go_wp2_with fail
    go_loopw [17] (fun iv wr => ∃ j : Nat, iv = .int .i64 j ∧ j ≤ L.length ∧ Kept (fun _ => False) w7 wr) (fun iv _ => L.length - (intOf iv).toNat)
    case atStart => exact ⟨0, rfl, by omega, Kept.refl _ _⟩
    case round =>
      obtain ⟨j, rfl, hj, hk8⟩ := hrel
      by_cases hlt : j < L.length
      case pos =>
        have hjd : decide ((j : Int) < L.length) = true := decide_eq_true (by omega)
        obtain ⟨u, hu⟩ : ∃ u, L[j]? = some u := ⟨_, List.getElem?_eq_getElem hlt⟩
        have hV1 : U16s wr (.slice A1 L.length C1) L := Sl.kept hk8 hU1 (fun _ _ h => h)
        have hV2 : U16s wr (.slice A2 L.length C2) L := Sl.kept hk8 hU2 (fun _ _ h => h)
        obtain ⟨g1, c1, e1, -, hc1⟩ := U16s.at_ hV1 hu
        obtain ⟨g2, c2, e2, -, hc2⟩ := U16s.at_ hV2 hu
        obtain ⟨rfl, -, rfl⟩ := Value.slice.inj e1
        obtain ⟨rfl, -, rfl⟩ := Value.slice.inj e2
        have huu : ((u : Int) != (u : Int)) = false := by simp
        clear e1 e2 hu
        go_wp2_with fail
        refine wp_region_mix0 [.w, .w, .w, .l, .w, .w, .w, .l, .w] (by kernel_rfl) (by kernel_rfl) ?_
        repeat (first
          | (refine mix_w1 ?_; go_big_quiet_step (fail); refine wpQuiet_nil ?_)
          | (refine mix_l1 rfl ?_; go_big_quiet_step (fail); refine wpQuiet_nil ?_))
        refine mix_done ?_
        go_wp2_with fail
        go_roundw
        case rel => exact ⟨j + 1, by go_num, by omega, hk8.drew⟩
        case measure => (simp [intOf]; try omega)
      case neg =>
        obtain rfl : j = L.length := by omega
        have hjd : decide ((L.length : Int) < L.length) = false := decide_eq_false (by omega)
        have hK8 := hK7.trans hk8 (fun _ _ h => h)
        clear hU1 hU2 hk8 hk6 hk7 hK5 hK6 hK7
        go_wp2_with fail
        refine (HD1.out _ (HIN.out _ hK8)).mono ?_
        rintro e w9 ⟨v1, rfl, hv1, hv1n, hk9, -⟩
        have hK9 := hK8.trans hk9 (fun _ _ h => h)
        have HV1 := Lib.hid hv1
        have HV1n := Lib.hid hv1n
        clear hv1 hv1n
        go_wp2_with fail
        refine (HD2.out _ (HIN.out _ hK9)).mono ?_
        rintro e w10 ⟨v2, rfl, hv2, hv2n, hk10, -⟩
        have hK10 := hK9.trans hk10 (fun _ _ h => h)
        have HV2 := Lib.hid hv2
        have HV2n := Lib.hid hv2n
        clear hv2 hv2n
        have hrows : Hid (∃ D : List Int, Ints w10 v1 D ∧ Ints w10 v2 D ∧ D.length ≤ 120) := Lib.hid (by
          by_cases hz : checkI l = 0
          · obtain ⟨L, hL, hU⟩ := HV1.out hz
            obtain ⟨M, hM, hV⟩ := HV2.out hz
            rw [hM.unique hL] at hV
            exact ⟨_, Sl.kept hk10 hU (fun _ _ h => h), hV, by have := deadU_len l L l.length; have := H120.out; omega⟩
          · rw [HV1n.out hz, HV2n.out hz]
            exact ⟨[], Sl.nil _ _ _, Sl.nil _ _ _, by simp⟩)
        obtain ⟨D, hU1, hU2, hDl⟩ := hrows.out
        have HII := Lib.hid (ints_any D D v1 v2 w10 hU1 hU2 (by omega))
        clear HV1 HV1n HV2 HV2n hrows hU1 hU2 hDl
        go_wp2_with fail
        refine HII.out.mono ?_
        rintro e w11 ⟨r, rfl, hr, hk11⟩
        have hr : r = true := hr.2 (by first | rfl | trivial)
        subst hr
        go_wp2_with fail
        go_ret
        exact ⟨rfl, hK10.trans hk11 (fun _ _ h => h)⟩

end Go.Proofs.Ytopdoanfpjaehaa

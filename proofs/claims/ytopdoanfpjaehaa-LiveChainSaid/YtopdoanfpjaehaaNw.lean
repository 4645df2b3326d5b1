import Derived.Test.YtopdoanfpjaehaaNv
set_option linter.unusedSimpArgs false
set_option linter.unusedVariables false
namespace Go.Proofs.Ytopdoanfpjaehaa
open Go.RowKit

/-! ### LiveChain -/
theorem shl_bit {s : Int} (h : 0 ≤ s ∧ s ≤ 9) (w : World) : (binOp .shl 35 (.int .u16 1) (.int .u8 s)).run Try.prog w = .ok (.int .u16 (bitN s)) w := by
  rcases (by omega : s = 0 ∨ s = 1 ∨ s = 2 ∨ s = 3 ∨ s = 4 ∨ s = 5 ∨ s = 6 ∨ s = 7 ∨ s = 8 ∨ s = 9) with e | e | e | e | e | e | e | e | e | e
  · subst e; exact (by kernel_rfl : (binOp .shl 35 (.int .u16 1) (.int .u8 0)).run Try.prog w = .ok (.int .u16 (bitN 0)) w)
  · subst e; exact (by kernel_rfl : (binOp .shl 35 (.int .u16 1) (.int .u8 1)).run Try.prog w = .ok (.int .u16 (bitN 1)) w)
  · subst e; exact (by kernel_rfl : (binOp .shl 35 (.int .u16 1) (.int .u8 2)).run Try.prog w = .ok (.int .u16 (bitN 2)) w)
  · subst e; exact (by kernel_rfl : (binOp .shl 35 (.int .u16 1) (.int .u8 3)).run Try.prog w = .ok (.int .u16 (bitN 3)) w)
  · subst e; exact (by kernel_rfl : (binOp .shl 35 (.int .u16 1) (.int .u8 4)).run Try.prog w = .ok (.int .u16 (bitN 4)) w)
  · subst e; exact (by kernel_rfl : (binOp .shl 35 (.int .u16 1) (.int .u8 5)).run Try.prog w = .ok (.int .u16 (bitN 5)) w)
  · subst e; exact (by kernel_rfl : (binOp .shl 35 (.int .u16 1) (.int .u8 6)).run Try.prog w = .ok (.int .u16 (bitN 6)) w)
  · subst e; exact (by kernel_rfl : (binOp .shl 35 (.int .u16 1) (.int .u8 7)).run Try.prog w = .ok (.int .u16 (bitN 7)) w)
  · subst e; exact (by kernel_rfl : (binOp .shl 35 (.int .u16 1) (.int .u8 8)).run Try.prog w = .ok (.int .u16 (bitN 8)) w)
  · subst e; exact (by kernel_rfl : (binOp .shl 35 (.int .u16 1) (.int .u8 9)).run Try.prog w = .ok (.int .u16 (bitN 9)) w)
def preC (R : List Int) (j : Nat) : List In := (List.range (j + 1)).map (chP R)
theorem pre_more {R : List Int} {j : Nat} (h : j < R.length) : preC R (j + 1) = preC R j ++ [movI (atC R (j + 1)) (atC R j)] := by
  unfold preC
  rw [List.range_succ (n := j + 1), List.map_append]
  congr 1
  show [chP R (j + 1)] = _
  unfold chP
  rw [if_neg (by omega), if_pos (by omega)]
  rfl
theorem pre_end (R : List Int) : chL R = preC R R.length ++ [movI 0 (atC R R.length), exV] := by
  unfold chL preC
  rw [List.range_succ (n := R.length + 2), List.range_succ (n := R.length + 1), List.map_append, List.map_append, List.append_assoc]
  congr 1
  show [chP R (R.length + 1)] ++ [chP R (R.length + 2)] = _
  rw [chP_end]
  unfold chP
  rw [if_neg (by omega), if_neg (by omega), if_pos rfl]
  rfl
theorem pre_len (R : List Int) (j : Nat) : (preC R j).length = j + 1 := by simp [preC]
set_option maxHeartbeats 16000000 in
set_option maxRecDepth 100000 in
theorem walk_chain (R : List Int) (a : Option Addr) (c : Nat) (w : World) (h : Rd8 w (.slice a R.length c) R) (hokx : ∀ x ∈ R, 0 ≤ x ∧ x ≤ 255) :
    Calls Try.prog 3 #[.slice a R.length c] w fun e w' => e = .returned (.bool true) ∧ Kept (fun _ => False) w w' := by
  have HKW := Lib.hid (fun W => known_any W)
  by_cases h40 : 40 < R.length
  · have hd : decide ((40 : Int) < R.length) = true := decide_eq_true (by omega)
    clear h40 h hokx
    go_enter Try.func3, Try.ntmps3
    go_wp2_with fail
    refine (HKW.out _).mono ?_
    rintro e w1 ⟨rfl, hk1⟩
    go_wp2_with fail
    go_ret
    exact ⟨rfl, hk1⟩
  · have hd : decide ((40 : Int) < R.length) = false := decide_eq_false (by omega)
    have hl40 : R.length ≤ 40 := by omega
    have HIN := Lib.hid (fun (W : World) (hk : Kept (fun _ => False) w W) => h.kept hk)
    obtain ⟨i0, hI0, hI1, hI2, hI3⟩ := info_parts infoIn
    clear h40 h
    go_enter Try.func3, Try.ntmps3
    go_wp2_with fail
    refine (HKW.out _).mono ?_
    rintro e w1 ⟨rfl, hk1⟩
    have hS1 : InS (w1.alloc (.cells ([inA7].map icells).flatten.toArray 26)) (.slice (some ⟨w1.heap.size, 0, none⟩) 1 1) (preC R 0) := inS_new w1 [inA7] (by decide)
    go_wp2_with fail
    go_loopw [3, 4, 5] (fun pv av iv wr => ∃ j : Nat, iv = .int .i64 j ∧ j ≤ R.length ∧ av = .int .u8 (atC R j) ∧ InS wr pv (preC R j) ∧ (∀ g, pv.ownBlock = some g → w.heap.size ≤ g) ∧ Kept (fun _ => False) w wr) (fun _ _ iv _ => R.length - (intOf iv).toNat)
    case atStart => exact ⟨0, rfl, by omega, rfl, hS1, fun g hg => by
      have e : w1.heap.size = g := Option.some.inj hg
      have := hk1.size
      omega, hk1.alloc _⟩
    case round =>
      clear hk1 hS1
      obtain ⟨j, rfl, hj, rfl, hP, hown, hK⟩ := hrel
      have hat := atC_ok R j
      by_cases hlt : j < R.length
      case pos =>
        have hjd : decide ((j : Int) < R.length) = true := decide_eq_true (by omega)
        obtain ⟨x, hx⟩ : ∃ x, R[j]? = some x := ⟨_, List.getElem?_eq_getElem hlt⟩
        obtain ⟨hx0, hx1⟩ := hokx x (List.mem_of_getElem? hx)
        obtain ⟨lg, lo, hla, hlg, c0⟩ := (HIN.out _ hK).at_ hx
        subst hla
        have HMO := Lib.hid (pre_more hlt)
        have hat2 : Hid (atC R (j + 1) = x % 10) := Lib.hid (by show R.getD j 0 % 10 = _; rw [List.getD_eq_getElem?_getD, hx]; rfl)
        have HPN := Lib.hid (pre_len R j)
        clear hx
        generalize atC R j = at0 at *
        rw [hat2.out] at HMO
        go_wp2_with (at_builtin; refine wpList_push (w := wr) rfl (.tmp 30) (.tmp 34) 27 rfl Try.underlying27 hI0 hI1 hI2 hI3 rfl (by omega) _ ((preC R j).map icells) (icells (movI (x % 10) at0)) rfl rfl hP rfl (by simp [icells, movI, Value.oneCell']) (by rw [List.length_map, HPN.out]; omega) (by omega) ?_; intro g5 cap5 w5 hS5 hk5 hg5)
        have hS6 : InS w5 (.slice (some ⟨g5, 0, none⟩) ((preC R j).length + 1) cap5) (preC R (j + 1)) := by
          rw [HMO.out]
          rw [List.length_map] at hS5
          show Sl _ _ _ _ ((_ ++ [_]).map icells)
          rw [List.map_append]
          exact hS5
        go_roundw
        case rel => exact ⟨j + 1, by go_num, by omega, by rw [hat2.out], hS6, fun g hg => by
          have e : g5 = g := Option.some.inj hg
          subst e
          rcases hg5 with h | h
          · exact hown _ h
          · have := hK.size
            omega, hK.trans hk5 (fun k hk e => by have := hown k e; omega)⟩
        case measure => (simp [intOf]; try omega)
      case neg =>
        obtain rfl : j = R.length := by omega
        have hjd : decide ((R.length : Int) < R.length) = false := decide_eq_false (by omega)
        have HPE := Lib.hid (pre_end R)
        have HPN := Lib.hid (pre_len R R.length)
        have HN := Lib.hid (ch_len R)
        have HOK := Lib.hid (ch_ok hl40)
        have HPL := Lib.hid (ch_plain hl40)
        have HLV := Lib.hid (fun ad cc W hW => lLive_any (chL R) ad cc W hW (ch_ok hl40))
        have HDD := Lib.hid (fun ad cc W hW => lDead_any (chL R) ad cc W hW (ch_ok hl40))
        rw [(ch_plain hl40).check] at HLV HDD
        have HVL := Lib.hid (fun L hL i hi => ch_val hl40 (L := L) hL (i := i) hi)
        have HDE := Lib.hid (fun L hL => ch_dead hl40 (L := L) hL (R.length + 3) (Nat.le_refl _))
        have HAT := Lib.hid (fun i hi => ch_at R (i := i) hi)
        have HMI := Lib.hid (fun i hi => chP_mid R (i := i) hi)
        have HVA : Hid (∀ i, 0 < i → i < R.length + 2 → ∃ s, 0 ≤ s ∧ s ≤ 9 ∧ valC R i = bitN s ∧ (chP R i).src = s) := Lib.hid (fun i h0 h1 => by
          obtain ⟨d, s, _, _, a3, a4, _, he, _⟩ := chP_mid R (i := i) h1
          obtain ⟨e, rfl⟩ := he h0
          refine ⟨_, a3, a4, ?_, by rw [e]; rfl⟩
          unfold valC
          rw [if_neg (by omega), if_pos (by omega)])
        have HV0 : Hid (valC R 0 = 0) := Lib.hid rfl
        have HVE : Hid (valC R (R.length + 2) = 1) := Lib.hid (by unfold valC; rw [if_neg (by omega), if_neg (by omega)])
        have hm2 := inS_new wr [movI 0 (atC R R.length), exV] (by simp)
        have HM2 := Lib.hid hm2.ins
        have hP2 := Sl.alloc hP (.cells ([movI 0 (atC R R.length), exV].map icells).flatten.toArray 26)
        clear hm2 hlt hj
        generalize atC R R.length = at0 at *
        go_wp2_with (at_builtin; refine wpList_appendS rfl (.tmp 37) (.tmp 41) 27 rfl Try.underlying27 hI0 hI1 hI2 hI3 rfl _ _ (preC R R.length) [movI 0 at0, exV] rfl rfl hP2 HM2.out (by simp) (by rw [HPN.out]; simp; omega) ?_; intro v5 w5 hS5 hk5 hv5)
        have hS6 : InS w5 v5 (chL R) := by rw [HPE.out]; exact hS5
        have hK5 : Kept (fun _ => False) w w5 := (hK.alloc _).trans hk5 (fun k hk e => by have := hown k e; omega)
        obtain ⟨g5, cap5, rfl, hc5, hg5⟩ := Sl.some_ hS6 (by rw [List.length_map, HN.out]; omega)
        rw [List.length_map] at *
        clear hS5 hP2 hP hown hK hk5 hv5 hc5 HPE HM2 HPN HOK HPL
        have HS := Lib.hid hS6
        go_wp2_with fail
        refine (HLV.out _ _ _ hS6.ins).mono ?_
        rintro e w6 ⟨lv, rfl, hlv, -, hk6, -⟩
        obtain ⟨L, hL, hU⟩ := hlv (by first | trivial | rfl)
        have hK6 := hK5.trans hk6 (fun _ _ h => h)
        have HLL := Lib.hid hL
        have hS6b := Sl.kept hk6 hS6 (fun _ _ h => h)
        clear hlv hL
        go_wp2_with fail
        refine (HDD.out _ _ _ (InS.ins hS6b)).mono ?_
        rintro e w7 ⟨dv, rfl, hdv, -, hk7, -⟩
        obtain ⟨L', hL', hD⟩ := hdv (by first | trivial | rfl)
        rw [HN.out, HDE.out L' hL'] at hD
        have hK7 := hK6.trans hk7 (fun _ _ h => h)
        obtain ⟨dA, dc, hde⟩ := Sl.any hD
        simp only [List.map_nil, List.length_nil] at hde
        subst hde
        have hU7 : U16s w7 lv L := Sl.kept hk7 hU (fun _ _ h => h)
        have HS7 : Hid (InS w7 (.slice (some ⟨g5, 0, none⟩) (chL R).length cap5) (chL R)) := Lib.hid (Sl.kept hk7 hS6b (fun _ _ h => h))
        obtain ⟨vg, vc, rfl, hvl, hvg⟩ := Sl.some_ hU7 (by rw [List.length_map, HLL.out.len, HN.out]; omega)
        rw [List.length_map, HLL.out.len] at *
        have hv0 := U16s.cell hU7 (HVL.out L HLL.out 0 (by omega))
        rw [HV0.out] at hv0
        have hnn : (((chL R).length : Int) != ((chL R).length : Int)) = false := by simp
        have HU7 := Lib.hid hU7
        clear hdv hL' hD hU hU7 hvl HLV HDD HDE hS6 hS6b
        have hn43 : (chL R).length ≤ 43 := by rw [HN.out]; omega
        have hn1 : 1 ≤ (chL R).length := by rw [HN.out]; omega
        go_wp2_with fail
        go_loopw [11] (fun iv wr => ∃ j : Nat, iv = .int .i64 j ∧ 1 ≤ j ∧ j ≤ R.length + 2 ∧ Kept (fun _ => False) w7 wr) (fun iv _ => R.length + 2 - (intOf iv).toNat)
        case atStart => exact ⟨1, rfl, by omega, by omega, Kept.refl _ _⟩
        case round =>
          obtain ⟨j, rfl, hj1, hj2, hk8⟩ := hrel
          by_cases hlt : j < R.length + 2
          case pos =>
            have hjd : decide ((j : Int) + 1 < (chL R).length) = true := decide_eq_true (by rw [HN.out]; omega)
            have hjn : j < (chL R).length := by rw [HN.out]; omega
            obtain ⟨s, hs0, hs1, hvs, hsr⟩ := HVA.out j (by omega) hlt
            have hv := U16s.cell (Sl.kept hk8 HU7.out (fun _ _ h => h)) (HVL.out L HLL.out j (by omega))
            rw [hvs] at hv
            have hc2 : wr.cell? ⟨g5, j * 5 + 2, none⟩ = some (.int .u8 s) := by
              rw [Sl.cell (Sl.kept hk8 HS7.out (fun _ _ h => h)) (i := j) (c := icells (chP R j)) (by rw [List.getElem?_map, HAT.out j (by omega)]; rfl) (k := 2) (by omega), ← hsr]
              rfl
            have hbb : ((bitN s : Int) != (bitN s : Int)) = false := by simp
            have HSH := Lib.hid (fun W => shl_bit ⟨hs0, hs1⟩ W)
            clear hvs hsr
            generalize bitN s = bs at *
            go_wp2_with fail
            refine wp_region_mix0 [.w, .w, .w, .l, .w, .w, .w, .w, .l, .l, .w] (by kernel_rfl) (by kernel_rfl) ?_
            iterate 9
              (first
                | (refine mix_w1 ?_; go_big_quiet_step (fail); refine wpQuiet_nil ?_)
                | (refine mix_l1 rfl ?_; go_big_quiet_step (fail); refine wpQuiet_nil ?_))
            refine mix_binG rfl rfl .shl 35 5 (.const (.int .u16 1)) (.tmp 92) rfl (.int .u16 1) (.int .u8 s) (.int .u16 bs) rfl rfl (fun w' => by simp [eqGuard]) HSH.out ?_
            simp only [Act.put, List.setIfInBounds_toArray, List.set_cons_succ, List.set_cons_zero]
            refine mix_w1 ?_; go_big_quiet_step (fail); refine wpQuiet_nil ?_
            refine mix_done ?_
            go_wp2_with fail
            go_roundw
            case rel => exact ⟨j + 1, by go_num, by omega, by omega, hk8.drew⟩
            case measure => (simp [intOf]; try omega)
          case neg =>
            obtain rfl : j = R.length + 2 := by omega
            have hjd : decide ((((R.length + 2 : Nat) : Int)) + 1 < (chL R).length) = false := decide_eq_false (by rw [HN.out]; omega)
            have hv := U16s.cell (Sl.kept hk8 HU7.out (fun _ _ h => h)) (HVL.out L HLL.out (R.length + 2) (by omega))
            rw [HVE.out] at hv
            have hne : ((chL R).length : Int) - 1 = ((R.length + 2 : Nat) : Int) := by rw [HN.out]; omega
            have hK8 := hK7.trans hk8 (fun _ _ h => h)
            have hlt9 : R.length + 2 < (chL R).length := by rw [HN.out]; omega
            go_wp2_with fail
            go_ret
            exact ⟨rfl, hK8⟩

end Go.Proofs.Ytopdoanfpjaehaa

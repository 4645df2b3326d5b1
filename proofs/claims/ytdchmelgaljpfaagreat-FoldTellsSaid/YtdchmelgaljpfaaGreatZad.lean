import Derived.Test.YtdchmelgaljpfaaGreatZab
import Derived.Test.YtdchmelgaljpfaaGreatZac
import Derived.Great.BuildSlice
import Derived.Test.YtdchmelgaljpfaaGreatKe
import Derived.Test.YtdchmelgaljpfaaGreatKe2
import Derived.Test.YtdchmelgaljpfaaGreatMh
import Derived.Test.YtdchmelgaljpfaaGreatMix
import Derived.Test.YtdchmelgaljpfaaGreatJd
import Derived.WalkKit
import Derived.ProofKit
import Derived.OpenShut
import Derived.ShutString
import Derived.ChangeOld
import Derived.Below
import Derived.Deep.Slices
import Derived.Deep.Fields
import Derived.ChangeSame
import Derived.ChangeSlices
set_option linter.unusedSimpArgs false
set_option linter.unusedVariables false
namespace Go.Proofs.YtdchmelgaljpfaaGreat
open Go.RowKit

set_option maxHeartbeats 4000000 in
set_option maxRecDepth 100000 in
theorem rafter_any (l : List In) (a : Option Addr) (c i : Nat) (x : In) (w : World) (h : Ins w (.slice a l.length c) l) (hok : InsOk l) (hx : l[i]? = some x) (hk : knownB x = true) :
    Calls Tryz.prog 22 #[.slice a l.length c, .int .i64 i] w fun e w' => ∃ na nc, e = .returned (.slice na (nextC i x).length nc) ∧ Ints w' (.slice na (nextC i x).length nc) (nextC i x) ∧ Kept (fun _ => False) w w' ∧ ∀ g, (Value.slice na (nextC i x).length nc).ownBlock = some g → w.heap.size ≤ g := by
  have HNE := Lib.hid (rnext_any l a c i x w h hok hx)
  rw [nextR_eq (hok.at_ hx) hk] at HNE
  clear h hok hx hk
  go_enter Tryz.func22, Tryz.ntmps22
  go_wp2_with fail
  refine HNE.out.mono ?_
  rintro e w1 ⟨ov, rfl, hN, hk1, ho⟩
  obtain ⟨na, nc, rfl⟩ := Sl.any hN
  rw [List.length_map] at *
  go_wp2_with fail
  go_ret
  exact ⟨_, _, rfl, hN, hk1, ho⟩
theorem infoD3 : (Tryz.prog.info? 99).map (fun i => (i.zero, i.size, i.bytes)) = some (some (.agg (dA false noneR)), 45, 360) := by kernel_rfl
theorem infoA3 : (Tryz.prog.info? 33).map (fun i => (i.zero, i.size, i.bytes)) = some (some (.agg (rowA noneR)), 44, 352) := by kernel_rfl
theorem fill_row {R : KR} (h : R.length = 11) : Instr.fill (fun i => some (i * 44, 44)) ((Array.range (1 * 44)).map ((Value.agg (rowA noneR)).cells[· % (Value.agg (rowA noneR)).cells.size]!)) [(0, .agg (rowA R))] = some (rowA R) := by
  have := Great.fill_whole (s := 44) (by omega) [.agg (rowA R)] ((Array.range (1 * 44)).map ((Value.agg (rowA noneR)).cells[· % (Value.agg (rowA noneR)).cells.size]!)) (fun v hv => by
    rw [List.mem_singleton.1 hv]
    exact rowA_sz h) (by simp)
  have e : ([Value.agg (rowA R)].flatMap fun v => v.cells.toList).toArray = rowA R := by
    simp [Value.cells]
  rw [e] at this
  exact this
theorem drow_mark {v : Option KR} (h : v = none ∨ v = some noneR) : (drow v).set 0 (.bool true) = drow (some noneR) := by rcases h with rfl | rfl <;> rfl

set_option maxHeartbeats 8000000 in
set_option maxRecDepth 100000 in
theorem rKnown_any (l : List In) (a : Option Addr) (c : Nat) (w : World) (h : Ins w (.slice a l.length c) l) (hok : InsOk l) :
    Calls Tryz.prog 8 #[.slice a l.length c] w fun e w' => ∃ ov, e = .returned (.tuple #[ov, .int .i64 (checkI l)]) ∧ (checkI l ≠ 0 → ov = .slice none 0 0) ∧ (checkI l = 0 → ∃ V, KIs l V ∧ Sl w' 33 44 ov (V.map vrow)) ∧ Kept (fun _ => False) w w' ∧ ∀ g, ov.ownBlock = some g → w.heap.size ≤ g := by
  have hlen := hok.len
  have HCK := Lib.hid (fun W hI => rcheck_any l a c W hI hok)
  have HIN := Lib.hid (fun (W : World) (hk : Kept (fun _ => False) w W) => h.kept hk)
  have HOK := Lib.hid hok
  have HSU := Lib.hid (fun W hI => subs_any l a c W hI hok)
  have HRE := Lib.hid (fun W hI hz => rof_any l a c W hI hok hz)
  clear h hok
  obtain ⟨i0, hI0, hI1, hI2, hI3⟩ := info_parts infoD3
  have HI0 := Lib.hid (And.intro hI0 (And.intro hI1 (And.intro hI2 hI3)))
  obtain ⟨j0, hJ0, hJ1, hJ2, hJ3⟩ := info_parts infoA3
  have HJ0 := Lib.hid (And.intro hJ0 (And.intro hJ1 (And.intro hJ2 hJ3)))
  clear hI0 hI1 hI2 hI3 hJ0 hJ1 hJ2 hJ3
  by_cases hz : checkI l = 0
  case neg =>
    have hz2 : (checkI l != 0) = true := by simpa using hz
    have HZ := Lib.hid hz
    clear hz
    generalize checkI l = ce at *
    go_enter Tryz.func8, Tryz.ntmps8
    go_wp2_with fail
    refine (HCK.out _ (HIN.out _ (Kept.refl _ w))).mono ?_
    rintro e w1 ⟨⟨p, rfl⟩, hk1⟩
    go_wp2_with fail
    go_ret2
    exact ⟨_, rfl, fun _ => rfl, fun e => absurd e HZ.out, hk1, fun g hg => by simp [Value.ownBlock] at hg⟩
  case pos =>
    rw [hz] at HCK
    have HRE := Lib.hid (fun W hI => HRE.out W hI hz)
    have hsz : subsC l = 0 := by
      have h1 := check_parts hz
      unfold checkI at hz
      rw [if_pos h1.1] at hz
      unfold subsC
      rw [if_pos h1.1]
      by_cases he : endedC l (partsL l) = 0
      · exact he
      · rw [if_neg he] at hz; exact absurd hz he
    rw [hsz] at HSU
    have hp64 := (check_parts hz).2.1
    have HPO := Lib.hid (parts_ok (check_parts hz).1)
    simp only [hz]
    have HZ := Lib.hid hz
    clear hz hsz
    go_enter Tryz.func8, Tryz.ntmps8
    go_wp2_with fail
    refine (HCK.out _ (HIN.out _ (Kept.refl _ w))).mono ?_
    rintro e w1 ⟨⟨p, rfl⟩, hk1⟩
    have HK1 := Lib.hid hk1
    clear hk1
    go_wp2_with (refine wpList_makeBig (w := w1) rfl _ _ 91 rfl (.agg (dA false noneR)) 45 rfl (by omega) Tryz.underlying91 HI0.out.1 HI0.out.2.1 HI0.out.2.2.1 HI0.out.2.2.2 (by omega) l.length rfl rfl (by omega) ?_; intro w2 hD2 hk2)
    have HD2 := Lib.hid (show KD w w2 w1.heap.size (List.replicate l.length none) from ⟨HK1.out.trans hk2 (fun _ _ e => e), by rw [List.length_replicate, List.map_replicate]; exact hD2, HK1.out.size⟩)
    clear hD2 hk2
    refine (HRE.out _ (HIN.out _ HD2.out.kp)).mono ?_
    rintro e w3 ⟨ov, rfl, hB, hk3, hbo⟩
    have HD3 := Lib.hid (HD2.out.quiet hk3)
    have HB3 := Lib.hid (And.intro hB hbo)
    have hl12 : w1.heap.size < w2.heap.size := Sl.lt HD2.out.rows _ rfl
    clear hB hk3 hbo HD2
    go_wp2_with fail
    refine (HSU.out _ (HIN.out _ HD3.out.kp)).mono ?_
    rintro e w4 ⟨pv, sp, rfl, hP, hk4, hpo⟩
    have hP := hP trivial
    have HD4 := Lib.hid (HD3.out.quiet hk4)
    have HB4 := Lib.hid (Sl.kept hk4 HB3.out.1 (fun _ _ e => e))
    obtain ⟨pA, pC, hpv⟩ := Sl.any hP
    rw [List.length_map] at hpv
    have HP4 := Lib.hid hP
    have hl13 : w1.heap.size < w3.heap.size := Sl.lt HD3.out.rows _ rfl
    have HNE := Lib.hid (show ∀ g, (pv.ownBlock = some g ∨ ov.ownBlock = some g) → g ≠ w1.heap.size from fun g hg => by
      rcases hg with hg | hg
      · have := hpo g hg; omega
      · have := HB3.out.2 g hg; omega)
    clear hP hk4 hpo HB3 HD3 hl12 hl13
    subst hpv
    generalize w1.heap.size = gD at *
    go_wp2_with fail
    go_loopw [11] (fun iv wr => ∃ (k : Nat) (V : List (Option KR)) (F : List (Int × Value)) (Q : List Nat), iv = .int .i64 k ∧ k ≤ (partsL l).length ∧ SI l (partsL l) k V F Q ∧ KD w wr gD V ∧ Kept (fun g => g = gD) w4 wr) (fun iv _ => (partsL l).length - (intOf iv).toNat)
    case atStart => exact ⟨0, _, _, _, rfl, Nat.zero_le _, SI.start l _, HD4.out, Kept.refl _ _⟩
    case round =>
      obtain ⟨k, V, F, Q, rfl, hk, hSI, hKD, hkr⟩ := hrel
      have HS := Lib.hid hSI
      have HM := Lib.hid hKD
      have HKR := Lib.hid hkr
      have hvl := hSI.len
      clear hSI hKD hkr HD4
      by_cases hlt : k < (partsL l).length
      case neg =>
        obtain rfl : k = (partsL l).length := by omega
        have HWB := Lib.hid (HS.out.done (Nat.le_refl _) HZ.out).1.b
        clear HS HKR HNE HP4 HB4 HPO HSU HRE hp64
        have HVL := Lib.hid hvl
        clear hvl
        go_wp2_with fail
        have hs12 : sizeT V + 1 ≤ 12 * l.length + 1 := by
          have := sizeT_le V (fun v hv r e => by
            obtain ⟨i, hi⟩ := List.getElem?_of_mem hv
            exact (HWB.out.num i r (by rw [hi, e])).1)
          rw [HVL.out] at this
          omega
        have HS12 := Lib.hid hs12
        clear hs12
        go_loopg [12] (12 * l.length + 1) (fun k cv wr => ∃ (V : List (Option KR)) (ch : Bool), cv = .bool ch ∧ WB l V ∧ (ch = false → KIs l V) ∧ KD w wr gD V ∧ (ch = true → sizeT V + 1 ≤ k))
        case atStart => exact ⟨V, true, rfl, HWB.out, (fun e => by cases e), HM.out, fun _ => HS12.out⟩
        case round =>
          clear HWB HM HS12 HVL
          obtain ⟨V, ch, rfl, hwb, hki, hM, hgk⟩ := hrel
          have HM := Lib.hid hM
          have HGK := Lib.hid hgk
          have HWB := Lib.hid hwb
          have HVL := Lib.hid hwb.len
          cases ch
          · have HKI := Lib.hid (hki rfl)
            clear hwb hki hM hgk
            go_wp2_with fail
            have HO0 := Lib.hid (show Sl wr 33 44 (.slice none 0 0) ((V.take 0).map vrow) from Sl.nil _ _ _)
            go_loopw [18, 19] (fun ov iv wr => ∃ k : Nat, iv = .int .i64 k ∧ k ≤ l.length ∧ Sl wr 33 44 ov ((V.take k).map vrow) ∧ KD w wr gD V ∧ ∀ g, ov.ownBlock = some g → w.heap.size ≤ g ∧ gD ≠ g) (fun _ iv _ => l.length - (intOf iv).toNat)
            case atStart => exact ⟨0, rfl, Nat.zero_le _, HO0.out, HM.out, fun g hg => by simp [Value.ownBlock] at hg⟩
            case round =>
              clear HO0 HM
              obtain ⟨k, rfl, hk, hO, hM, hown⟩ := hrel
              have HO := Lib.hid hO
              have HM := Lib.hid hM
              have HOW := Lib.hid hown
              clear hO hM hown
              by_cases hlt : k < l.length
              case neg =>
                obtain rfl : k = l.length := by omega
                go_wp2_with fail
                go_ret2
                refine ⟨_, rfl, fun e => absurd rfl e, fun _ => ⟨V, HKI.out, ?_⟩, HM.out.kp, fun g hg => (HOW.out g hg).1⟩
                have h1 := HO.out
                rw [List.take_of_length_le (by rw [HVL.out]; exact Nat.le_refl _)] at h1
                exact h1
              case pos =>
                obtain ⟨v, hv⟩ : ∃ v, V[k]? = some v := ⟨_, List.getElem?_eq_getElem (by rw [HVL.out]; exact hlt)⟩
                have hvg : (v.getD noneR).length = 11 := by
                  cases v with
                  | none => rfl
                  | some r => exact (HKI.out.b.num k r hv).1
                have HV := Lib.hid hv
                have HVG := Lib.hid hvg
                have HTK := Lib.hid (show (V.take (k + 1)).map vrow = (V.take k).map vrow ++ [vrow v] by rw [List.take_add_one, hv]; simp)
                have HTL := Lib.hid (show ((V.take k).map vrow).length = k by rw [List.length_map, List.length_take, HVL.out]; omega)
                have hgl := Sl.lt HM.out.rows gD rfl
                clear hv hvg
                generalize hR : v.getD noneR = R at *
                have HR := Lib.hid hR
                have HCE := Lib.hid (fun (q : Nat) (u : Value) (hu : (rowA R)[q]? = some u) => (show wr.cell? ⟨gD, k * 45 + 1 + q, none⟩ = some u from by
                  rw [Nat.add_assoc]
                  refine HM.out.cell HV.out (by rw [HR.out]; exact HVG.out) (1 + q) u ?_
                  rw [dA_row, HR.out]
                  exact hu))
                clear hR
                have hrsz := rowA_sz HVG.out
                go_wp2_with (first | (refine wpList_loadB rfl _ 33 rfl aggArr HJ0.out.1 (rowA R) (by rw [HJ0.out.2.2.1, rowA_sz HVG.out]) ⟨gD, k * 45 + 1, none⟩ (by first | rfl | simp) (fun q u hu => by rw [add_n]; exact HCE.out q u hu) ?_) | (refine wpList_buildSlice rfl 24 33 1 #[(0, .tmp 126)] rfl (rowA R) j0 (.agg (rowA noneR)) Tryz.underlying24 HJ0.out.1 HJ0.out.2.1 (by rw [HJ0.out.2.2.1]; omega) (by rw [HJ0.out.2.2.1]; omega) (by rw [HJ0.out.2.2.1]; refine Eq.trans (congrArg (Instr.fill _ _) ?_) (fill_row HVG.out); simp [Act.eval]; rfl) ?_) | (at_builtin; refine wpList_push (w := wr) rfl _ _ 24 rfl Tryz.underlying24 HJ0.out.1 HJ0.out.2.1 HJ0.out.2.2.1 HJ0.out.2.2.2 rfl (by omega) u18 ((V.take k).map vrow) (rowC R) rfl rfl HO.out (by rw [flat_len, HVG.out]) (rowC_one _) (by rw [HTL.out]; omega) (by omega) ?_; intro g5 cap5 w5 hO5 hk5 ho5))
                have hkf : ∀ g, u18.ownBlock = some g → w.heap.size ≤ g ∧ gD ≠ g := HOW.out
                refine ⟨⟨k + 1, by simp, by omega, ?_, ⟨HM.out.kp.trans hk5 (fun g hg e => by have := hkf g e; omega), Sl.kept hk5 HM.out.rows (fun g hg e => by have e1 : gD = g := Option.some.inj hg; have := hkf g e; omega), HM.out.new⟩, fun g hg => ?_⟩, ?_⟩
                · have e : vrow v = rowC R := by unfold vrow; rw [HR.out]
                  rw [HTK.out, e]
                  have h5 := hO5
                  rw [List.length_map, List.length_take] at h5
                  exact h5
                · have e1 : g5 = g := Option.some.inj hg
                  subst e1
                  rcases ho5 with h | h
                  · exact hkf _ h
                  · have := HM.out.kp.size; omega
                · show l.length - ((k : Int) + 1).toNat < l.length - ((k : Int)).toNat
                  omega
          · clear hwb hki hM hgk
            go_wp2_with fail
            go_loopw [12, 13] (fun cv iv wr => ∃ (m : Nat) (V1 : List (Option KR)) (ch : Bool), cv = .bool ch ∧ iv = .int .i64 m ∧ m ≤ l.length ∧ WB l V1 ∧ KD w wr gD V1 ∧ (ch = false → ∀ i, i < m → EdgeOk l V1 i ((flwL l).next i)) ∧ (ch = true → sizeT V1 + 1 ≤ sizeT V) ∧ sizeT V1 ≤ sizeT V) (fun _ iv _ => l.length - (intOf iv).toNat)
            case atStart => exact ⟨0, V, false, rfl, rfl, Nat.zero_le _, HWB.out, HM.out, fun _ i hi => absurd hi (Nat.not_lt_zero _), (fun e => by cases e), Nat.le_refl _⟩
            case round =>
              clear HWB HM HVL
              obtain ⟨m, V1, ch, rfl, rfl, hm, hwb, hM, hed, hsz1, hsz2⟩ := hrel
              have HWB := Lib.hid hwb
              have HM := Lib.hid hM
              have HED := Lib.hid hed
              have HSZ := Lib.hid (And.intro hsz1 hsz2)
              have HVL := Lib.hid hwb.len
              clear hwb hM hed hsz1 hsz2
              by_cases hlt : m < l.length
              case neg =>
                obtain rfl : m = l.length := by omega
                go_wp2_with fail
                go_roundg (gk - 1)
                case measure => have := HGK.out (by trivial); omega
                case rel => exact ⟨V1, ch, rfl, HWB.out, fun e => edges_done HWB.out (HED.out e), HM.out, fun e => by have := HGK.out (by trivial); have := HSZ.out.1 e; omega⟩
              case pos =>
                obtain ⟨v, hv⟩ : ∃ v, V1[m]? = some v := ⟨_, List.getElem?_eq_getElem (by rw [HVL.out]; exact hlt)⟩
                have hmc : wr.cell? ⟨gD, m * 45, none⟩ = some (.bool v.isSome) := HM.out.met hv
                cases v with
                | none =>
                  have HV := Lib.hid hv
                  have hmc2 : wr.cell? ⟨gD, m * 45, none⟩ = some (.bool false) := hmc
                  clear hv hmc
                  go_wp2_with fail
                  refine ⟨⟨m + 1, V1, ch, rfl, by simp, by omega, HWB.out, HM.out, fun e i hi => ?_, HSZ.out.1, HSZ.out.2⟩, ?_⟩
                  · by_cases e2 : i = m
                    · subst e2
                      exact fun r hr => by rw [HV.out] at hr; cases hr
                    · exact HED.out e i (by omega)
                  · show l.length - ((m : Int) + 1).toNat < l.length - ((m : Int)).toNat
                    omega
                | some r0 =>
                  have hmc2 : wr.cell? ⟨gD, m * 45, none⟩ = some (.bool true) := hmc
                  have hri := HWB.out.rch m r0 hv
                  obtain ⟨hil, his⟩ := rch_ok HZ.out hri
                  obtain ⟨x, hx⟩ : ∃ x, l[m]? = some x := ⟨_, List.getElem?_eq_getElem hil⟩
                  have hrt := right_of HZ.out hx his
                  have hnr0 := HWB.out.num m r0 hv
                  have hyy : x.op = 24 → l[m + 1]? = some (l.getD (m + 1) zeroIn) := fun e => by
                    obtain ⟨h1, _⟩ := behind_ok HZ.out hx his (by omega) (by omega) (n := m + 2) (by rw [if_pos e])
                    rw [List.getD_eq_getElem?_getD, List.getElem?_eq_getElem (by omega)]
                    rfl
                  have HBH := Lib.hid (fun W hI => rbehind_any l a c m x (l.getD (m + 1) zeroIn) r0 W hI HOK.out hx hrt hyy hnr0.1 hnr0.2)
                  rw [← flw_beh hx hrt] at HBH
                  have hnb : NumOk ((flwL l).beh m r0) := by rw [flw_beh hx hrt]; exact num_beh (HOK.out.at_ hx) hrt hnr0
                  have HNX := Lib.hid (fun W hI => rafter_any l a c m x W hI HOK.out hx (right_known hrt))
                  have HFN := Lib.hid (flw_next hx)
                  have hnok : ∀ j ∈ nextC m x, ∃ n : Nat, j = n ∧ n < l.length ∧ Rch l n := fun j hj => by
                    obtain ⟨n, e, h1, _⟩ := next_ok HZ.out hx his hj
                    refine ⟨n, e, h1, hri.step ?_⟩
                    rw [succ_at hx, ← e]
                    exact List.mem_append_left _ hj
                  have HNOK := Lib.hid hnok
                  have hnl := next_len m x
                  generalize nextC m x = N at *
                  generalize hBB : (flwL l).beh m r0 = B at *
                  have HBB := Lib.hid hBB
                  have HNB := Lib.hid hnb
                  have HV := Lib.hid hv
                  have HRL0 := Lib.hid hnr0.1
                  clear hri his hx hrt hnr0 hyy hnb hnok hBB hv hmc
                  go_wp2_with (refine wpList_loadB rfl _ 99 rfl aggD HI0.out.1 (dA true r0) (by rw [HI0.out.2.2.1, dA_sz HRL0.out]) ⟨gD, m * 45, none⟩ (by first | rfl | simp) (fun k u hu => by rw [add_n]; exact HM.out.cell HV.out HRL0.out k u hu) ?_)
                  refine (HBH.out _ (HIN.out _ HM.out.kp)).mono ?_
                  rintro e w5 ⟨rfl, hk5⟩
                  have HM5 := Lib.hid (HM.out.quiet hk5)
                  clear hk5 HBH HM
                  go_wp2_with (refine wpList_storeB rfl _ _ 99 rfl HI0.out.1 w5.heap.size 0 99 (dA false noneR) (dA true B) rfl rfl (by rw [HI0.out.2.2.1, dA_sz HNB.out.1]) (by rw [dA_sz HNB.out.1, dA_sz rfl]; omega) (dA_one _ _) (by exact Blk.new w5 _ _) ?_; intro w6 hb6 hk6)
                  rw [splice_d rfl HNB.out.1] at hb6
                  have hk56 : Kept (fun _ => False) w5 w6 := ((Kept.refl _ w5).alloc _).trans hk6 (fun k hk e => by omega)
                  have HM6 := Lib.hid (HM5.out.quiet hk56)
                  have HB6 := Lib.hid hb6
                  have hg6 := hb6.lt
                  have hgD5 := Sl.lt HM5.out.rows gD rfl
                  clear hb6 hk6 hk56 HM5
                  refine (HNX.out _ (HIN.out _ HM6.out.kp)).mono ?_
                  rintro e w7 ⟨na, nc, rfl, hN, hk7, hno⟩
                  have HM7 := Lib.hid (HM6.out.quiet hk7)
                  have HB7 := Lib.hid (hk7.blk (fun e => e) HB6.out)
                  have HN7 := Lib.hid hN
                  have HNO := Lib.hid (show ∀ g, (Value.slice na N.length nc).ownBlock = some g → g ≠ gD from fun g hg e => by have := hno g hg; omega)
                  clear hN hno hk7 HM6 HB6 HNX
                  generalize w5.heap.size = g14 at *
                  have hgD14 := hgD5
                  go_wp2_with fail
                  go_loopw [12, 16] (fun cv iv wr => ∃ (k : Nat) (V2 : List (Option KR)) (ch : Bool), cv = .bool ch ∧ iv = .int .i64 k ∧ k ≤ N.length ∧ WB l V2 ∧ KD w wr gD V2 ∧ Blk wr g14 99 (dA true B) ∧ Ints wr (.slice na N.length nc) N ∧ (∃ r1, V2[m]? = some (some r1) ∧ LeR r1 r0) ∧
                    (ch = false → (∀ i, i < m → EdgeOk l V2 i ((flwL l).next i)) ∧ V2[m]? = some (some r0) ∧ ∀ j ∈ ((flwL l).next m).take k, ∃ v, V2[j]? = some v ∧ LeO v (some B)) ∧ (ch = true → sizeT V2 + 1 ≤ sizeT V) ∧ sizeT V2 ≤ sizeT V) (fun _ iv _ => N.length - (intOf iv).toNat)
                  case atStart => exact ⟨0, V1, ch, rfl, rfl, Nat.zero_le _, HWB.out, HM7.out, HB7.out, HN7.out, ⟨r0, HV.out, LeR.refl _⟩, fun e => ⟨HED.out e, HV.out, fun j hj => by simp at hj⟩, HSZ.out.1, HSZ.out.2⟩
                  case round =>
                    clear HM7 HB7 HN7 HWB HED HSZ HV hmc2 HVL
                    obtain ⟨k, V2, ch2, rfl, rfl, hk, hwb, hM, hB, hN, hown, hed, hsz1, hsz2⟩ := hrel
                    have HWB := Lib.hid hwb
                    have HM := Lib.hid hM
                    have HB := Lib.hid hB
                    have HN := Lib.hid hN
                    have HOW := Lib.hid hown
                    have HED := Lib.hid hed
                    have HSZ := Lib.hid (And.intro hsz1 hsz2)
                    clear hwb hM hB hN hown hed hsz1 hsz2
                    by_cases hlk : k < N.length
                    case neg =>
                      obtain rfl : k = N.length := by omega
                      go_wp2_with fail
                      refine ⟨⟨m + 1, V2, ch2, rfl, by simp, by omega, HWB.out, HM.out, fun e i hi => ?_, HSZ.out.1, HSZ.out.2⟩, ?_⟩
                      · obtain ⟨h1, h2, h3⟩ := HED.out e
                        by_cases e2 : i = m
                        · subst e2
                          intro r hr j hj
                          rw [h2] at hr
                          cases hr
                          rw [HBB.out]
                          exact h3 j (by rw [List.take_of_length_le (by rw [HFN.out, List.length_map]; exact Nat.le_refl _)]; exact hj)
                        · exact h1 i (by omega)
                      · show l.length - ((m : Int) + 1).toNat < l.length - ((m : Int)).toNat
                        omega
                    case pos =>
                      obtain ⟨jz, hjz⟩ : ∃ jz, N[k]? = some jz := ⟨_, List.getElem?_eq_getElem hlk⟩
                      obtain ⟨n, rfl, hnl2, hnr⟩ := HNOK.out jz (List.mem_of_getElem? hjz)
                      obtain ⟨ng, ncap, hnv, hncap, hngl⟩ := Sl.some_ HN.out (by rw [List.length_map]; omega)
                      rw [List.length_map] at hnv
                      cases hnv
                      have hnc := Ints.cell HN.out hjz
                      have hfj : ((flwL l).next m)[k]? = some n := by rw [HFN.out, List.getElem?_map, hjz]; simp
                      obtain ⟨v, hv⟩ : ∃ v, V2[n]? = some v := ⟨_, List.getElem?_eq_getElem (by rw [HWB.out.len]; exact hnl2)⟩
                      have hvl : ∀ r, v = some r → r.length = 11 := fun r e => (HWB.out.num n r (by rw [hv, e])).1
                      have hvg : (v.getD noneR).length = 11 := by
                        cases v with
                        | none => rfl
                        | some r => exact hvl r rfl
                      have HFJ := Lib.hid hfj
                      have HV := Lib.hid hv
                      have HVG := Lib.hid (And.intro hvl hvg)
                      have HNR := Lib.hid hnr
                      have HLT := Lib.hid (show gD < wr.heap.size ∧ g14 < wr.heap.size ∧ ng < wr.heap.size from ⟨Sl.lt HM.out.rows gD rfl, HB.out.lt, Sl.lt HN.out ng rfl⟩)
                      have HJZ := Lib.hid hjz
                      have HLE := Lib.hid (HNO.out ng rfl)
                      clear hfj hv hvl hvg hnr hjz hncap
                      go_wp2_with fail
                      have HG14 := Lib.hid (show gD < g14 from hgD14)
                      have HML := Lib.hid (show (meetO v B).length = 11 from by
                        cases v with
                        | none => exact HNB.out.1
                        | some r => show (meetR r B).length = 11; rw [meetR_len (by rw [HVG.out.1 r rfl, HNB.out.1]), HVG.out.1 r rfl])
                      have HC0 := Lib.hid (show (fun W => KD w W gD V2 ∧ Blk W g14 99 (dA true B) ∧ Ints W (.slice (some ⟨ng, 0, none⟩) N.length nc) N) wr.drew from ⟨HM.out.quiet (Kept.refl _ wr).drew, HB.out, HN.out⟩)
                      refine wp_region_tree [.w, .w, .w, .w, .l, .w, .l, .l, .k, .k, .t] (fun W => KD w W gD V2 ∧ Blk W g14 99 (dA true B) ∧ Ints W (.slice (some ⟨ng, 0, none⟩) N.length nc) N) [true, true, true, true, true, true, true, true, true, true, true] (by kernel_rfl) (by kernel_rfl) (by kernel_rfl) ?_
                      clear HM HB HN HLT hnc
                      generalize wr.drew = w0 at *
                      refine tree_fork2 [true, true, true, true, true, true, true, true, true, false, false] [false, false, false, false, false, false, false, false, false, true, true] [false, false, false, false, false, false, false, false, false, true, false] [true, true, true, true, true, true, true, true, true, false, true] (by kernel_rfl) ?_ ?_
                      · simp only [keep]
                        refine mix_w1 ?_; go_big_quiet_step (fail); refine wpQuiet_nil ?_
                        refine mix_w1 ?_; go_big_quiet_step (fail); refine wpQuiet_nil ?_
                        refine mix_w1 ?_; go_big_quiet_step (fail); refine wpQuiet_nil ?_
                        refine mix_w1 ?_; go_big_quiet_step (fail); refine wpQuiet_nil ?_
                        refine mix_load1 HC0.out rfl 3 _ rfl (fun w => by kernel_rfl) ⟨ng, k, none⟩ (.int .i64 n) (by first | rfl | simp) (fun w' hb => Ints.cell hb.2.2 HJZ.out) ?_
                        try simp only [Act.put, List.setIfInBounds_toArray, List.set_cons_succ, List.set_cons_zero]
                        refine mix_w1 ?_; go_big_quiet_step (fail); refine wpQuiet_nil ?_
                        refine mix_loadB HC0.out rfl _ 99 rfl aggD HI0.out.1 (dV v) (by rw [HI0.out.2.2.1, dA_sz HVG.out.2]) ⟨gD, n * 45, none⟩ (by first | rfl | simp) (fun w' hb q u hu => by rw [add_n]; exact hb.1.cell HV.out HVG.out.2 q u hu) ?_
                        try simp only [Act.put, List.setIfInBounds_toArray, List.set_cons_succ, List.set_cons_zero]
                        refine mix_loadB HC0.out rfl _ 99 rfl aggD HI0.out.1 (dA true B) (by rw [HI0.out.2.2.1, dA_sz HNB.out.1]) ⟨g14, 0, none⟩ (by first | rfl | simp) (fun w' hb q u hu => by rw [add_n, hb.2.1.cell, Nat.zero_add]; exact hu) ?_
                        try simp only [Act.put, List.setIfInBounds_toArray, List.set_cons_succ, List.set_cons_zero]
                        refine mix_k (by exact HC0.out) fun Q' hQ' => ?_
                        have HC1 := HC0
                        clear HC0
                        go_wp2_with fail
                        refine (rmeet_any v B _ HVG.out.1 HNB.out.1).mono ?_
                        rintro e wM ⟨rfl, hkM⟩
                        have HC2 := Lib.hid (show (fun W => KD w W gD V2 ∧ Blk W g14 99 (dA true B) ∧ Ints W (.slice (some ⟨ng, 0, none⟩) N.length nc) N) wM from ⟨HC1.out.1.quiet hkM, hkM.blk (fun e => e) HC1.out.2.1, Sl.kept hkM HC1.out.2.2 (fun _ _ e => e)⟩)
                        clear hkM HC1
                        go_wp2_with fail
                        refine hQ' _ _ HC2.out ?_
                        clear hQ' Q'
                        refine mix_done ?_
                        try simp only [Act.put, List.setIfInBounds_toArray, List.set_cons_succ, List.set_cons_zero]
                        refine tree_fork1 [false, false, false, false, false, false, false, false, false, true, false] [false, false, false, false, false, false, false, false, false, false, true] (by kernel_rfl) ?_
                        simp only [keep]
                        refine mix_k (by exact HC2.out) fun Q' hQ' => ?_
                        go_wp2_with fail
                        have hl17 : gD < wM.heap.size ∧ g14 < wM.heap.size ∧ ng < wM.heap.size := ⟨Sl.lt HC2.out.1.rows gD rfl, HC2.out.2.1.lt, Sl.lt HC2.out.2.2 ng rfl⟩
                        have HCX : Hid ((fun W => KD w W gD V2 ∧ Blk W g14 99 (dA true B) ∧ Ints W (.slice (some ⟨ng, 0, none⟩) N.length nc) N) (wM.alloc (.cells (dA false noneR) 99))) := Lib.hid ⟨HC2.out.1.quiet ((Kept.refl _ wM).alloc _), HC2.out.2.1.alloc _, Sl.alloc HC2.out.2.2 _⟩
                        have HB17 : Hid (Blk (wM.alloc (.cells (dA false noneR) 99)) wM.heap.size 99 (dA false noneR)) := Lib.hid (Blk.new wM _ _)
                        refine hQ' _ _ HCX.out ?_
                        clear hQ' Q' HC2
                        generalize wM.heap.size = g17 at *
                        have HL17 := Lib.hid hl17
                        clear hl17
                        refine mix_done ?_
                        try simp only [Act.put, List.setIfInBounds_toArray, List.set_cons_succ, List.set_cons_zero]
                        refine tree_fork1 [false, false, false, false, false, false, false, false, false, false, true] [false, false, false, false, false, false, false, false, false, false, false] (by kernel_rfl) ?_
                        simp only [keep]
                        refine mix_t fun Q' hQ' => ?_
                        refine wpList_storeB rfl _ _ 99 rfl HI0.out.1 g17 0 99 (dA false noneR) (dA true (meetO v B)) rfl rfl (by rw [HI0.out.2.2.1, dA_sz HML.out]) (by rw [dA_sz HML.out, dA_sz rfl]; omega) (dA_one _ _) (by exact HB17.out) ?_
                        intro wS hbS hkS
                        rw [splice_d rfl HML.out] at hbS
                        refine hQ' _ _ ?_
                        clear hQ' Q'
                        have HCS := Lib.hid (show (fun W => (KD w W gD V2 ∧ Blk W g14 99 (dA true B) ∧ Ints W (.slice (some ⟨ng, 0, none⟩) N.length nc) N) ∧ Blk W g17 99 (dA true (meetO v B))) wS from ⟨⟨HCX.out.1.far hkS (by have := HL17.out; omega), hkS.blk (by have := HL17.out; omega) HCX.out.2.1, Sl.kept hkS HCX.out.2.2 (fun g hg e => by have e1 : ng = g := Option.some.inj hg; have := HL17.out; omega)⟩, hbS⟩)
                        clear hbS hkS HCX HB17
                        refine mix_done ?_
                        try simp only [Act.put, List.setIfInBounds_toArray, List.set_cons_succ, List.set_cons_zero]
                        refine tree_last (by kernel_rfl) ?_
                        simp only [keep]
                        refine mix_done ?_
                        have HCe := Lib.hid (show (fun W => (KD w W gD V2 ∧ Blk W g14 99 (dA true B) ∧ Ints W (.slice (some ⟨ng, 0, none⟩) N.length nc) N) ∧ Blk W g17 99 (dA true (meetO v B))) wS from HCS.out)
                        clear HCS
                        go_wp2_with fail
                        refine wp_region_mix [.l, .w, .w, .w, .w, .l, .w, .l, .l] (by kernel_rfl) (by kernel_rfl) (fun W => (KD w W gD V2 ∧ Blk W g14 99 (dA true B) ∧ Ints W (.slice (some ⟨ng, 0, none⟩) N.length nc) N) ∧ Blk W g17 99 (dA true (meetO v B))) ?_
                        have HCf := Lib.hid (show (fun W => (KD w W gD V2 ∧ Blk W g14 99 (dA true B) ∧ Ints W (.slice (some ⟨ng, 0, none⟩) N.length nc) N) ∧ Blk W g17 99 (dA true (meetO v B))) wS.drew from ⟨⟨HCe.out.1.1.quiet (Kept.refl _ wS).drew, HCe.out.1.2.1, HCe.out.1.2.2⟩, HCe.out.2⟩)
                        clear HCe
                        generalize wS.drew = wF at *
                        refine mix_loadB HCf.out rfl _ 99 rfl aggD HI0.out.1 (dA true (meetO v B)) (by rw [HI0.out.2.2.1, dA_sz HML.out]) ⟨g17, 0, none⟩ (by first | rfl | simp) (fun w' hb q u hu => by rw [add_n, hb.2.cell, Nat.zero_add]; exact hu) ?_
                        try simp only [Act.put, List.setIfInBounds_toArray, List.set_cons_succ, List.set_cons_zero]
                        refine mix_w1 ?_; go_big_quiet_step (fail); refine wpQuiet_nil ?_
                        refine mix_w1 ?_; go_big_quiet_step (fail); refine wpQuiet_nil ?_
                        refine mix_w1 ?_; go_big_quiet_step (fail); refine wpQuiet_nil ?_
                        refine mix_w1 ?_; go_big_quiet_step (fail); refine wpQuiet_nil ?_
                        refine mix_load1 HCf.out rfl 3 _ rfl (fun w => by kernel_rfl) ⟨ng, k, none⟩ (.int .i64 n) (by first | rfl | simp) (fun w' hb => Ints.cell hb.1.2.2 HJZ.out) ?_
                        try simp only [Act.put, List.setIfInBounds_toArray, List.set_cons_succ, List.set_cons_zero]
                        refine mix_w1 ?_; go_big_quiet_step (fail); refine wpQuiet_nil ?_
                        refine mix_loadB HCf.out rfl _ 99 rfl aggD HI0.out.1 (dV v) (by rw [HI0.out.2.2.1, dA_sz HVG.out.2]) ⟨gD, n * 45, none⟩ (by first | rfl | simp) (fun w' hb q u hu => by rw [add_n]; exact hb.1.1.cell HV.out HVG.out.2 q u hu) ?_
                        try simp only [Act.put, List.setIfInBounds_toArray, List.set_cons_succ, List.set_cons_zero]
                        refine mix_val1 HCf.out rfl (.bool (!(decide (true = v.isSome) && decide (meetO v B = v.getD noneR)))) (fun w' hw' => by
                          have h1 := d_neq true v.isSome (meetO v B) (v.getD noneR) HML.out HVG.out.2 w'
                          have h2 : (eqGuard .neq 99 (.tmp 99) (.tmp 106) (.agg (dA true (meetO v B))) (.agg (dV v))).run Tryz.prog w' = .ok () w' := run_eqGuard_agg w' _ _ _ _ _ _ (by kernel_rfl)
                          simp [execOp, Act.eval, h1, h2, Result.andThen]) ?_
                        try simp only [Act.put, List.setIfInBounds_toArray, List.set_cons_succ, List.set_cons_zero]
                        refine mix_nil ?_
                        generalize hdq : (decide (true = v.isSome) && decide (meetO v B = v.getD noneR)) = dq
                        have hds : dq = true ↔ some (meetO v B) = v := by
                          rw [← hdq]
                          cases v with
                          | none => simp
                          | some r => simp
                        have HDS := Lib.hid hds
                        clear hdq hds
                        cases dq
                        · have HNQ := Lib.hid (show some (meetO v B) ≠ v from fun e => by have := HDS.out.2 e; cases this)
                          go_wp2_with fail
                          refine wp_region_mix [.w, .w, .w, .w, .l, .l, .w, .t] (by kernel_rfl) (by kernel_rfl) (fun W => (KD w W gD V2 ∧ Blk W g14 99 (dA true B) ∧ Ints W (.slice (some ⟨ng, 0, none⟩) N.length nc) N) ∧ Blk W g17 99 (dA true (meetO v B))) ?_
                          have HCg := Lib.hid (show (fun W => (KD w W gD V2 ∧ Blk W g14 99 (dA true B) ∧ Ints W (.slice (some ⟨ng, 0, none⟩) N.length nc) N) ∧ Blk W g17 99 (dA true (meetO v B))) wF.drew from ⟨⟨HCf.out.1.1.quiet (Kept.refl _ wF).drew, HCf.out.1.2.1, HCf.out.1.2.2⟩, HCf.out.2⟩)
                          clear HCf
                          generalize wF.drew = wG at *
                          refine mix_w1 ?_; go_big_quiet_step (fail); refine wpQuiet_nil ?_
                          refine mix_w1 ?_; go_big_quiet_step (fail); refine wpQuiet_nil ?_
                          refine mix_w1 ?_; go_big_quiet_step (fail); refine wpQuiet_nil ?_
                          refine mix_w1 ?_; go_big_quiet_step (fail); refine wpQuiet_nil ?_
                          refine mix_load1 HCg.out rfl 3 _ rfl (fun w => by kernel_rfl) ⟨ng, k, none⟩ (.int .i64 n) (by first | rfl | simp) (fun w' hb => Ints.cell hb.1.2.2 HJZ.out) ?_
                          try simp only [Act.put, List.setIfInBounds_toArray, List.set_cons_succ, List.set_cons_zero]
                          refine mix_loadB HCg.out rfl _ 99 rfl aggD HI0.out.1 (dA true (meetO v B)) (by rw [HI0.out.2.2.1, dA_sz HML.out]) ⟨g17, 0, none⟩ (by first | rfl | simp) (fun w' hb q u hu => by rw [add_n, hb.2.cell, Nat.zero_add]; exact hu) ?_
                          try simp only [Act.put, List.setIfInBounds_toArray, List.set_cons_succ, List.set_cons_zero]
                          refine mix_w1 ?_; go_big_quiet_step (fail); refine wpQuiet_nil ?_
                          refine mix_t fun Q' hQ' => ?_
                          refine wpList_storeElem (drow (some (meetO v B))) rfl _ _ 99 rfl HI0.out.1 HI0.out.2.2.1 gD V2.length V2.length n (V2.map drow) (by first | rfl | simp) (by rfl) (drow_len HML.out) (fun y hy => dA_one true (meetO v B) y (by simpa [dA, drow] using hy)) (by exact HCg.out.1.1.rows) (by rw [List.length_map]; exact (List.getElem?_eq_some_iff.1 HV.out).1) ?_
                          intro wH hRH hkH
                          have HDH := Lib.hid (HCg.out.1.1.put hRH hkH)
                          refine hQ' _ _ ?_
                          clear hQ' Q'
                          refine mix_nil ?_
                          go_wp2_with fail
                          have hbH := hkH.blk (by have := HG14.out; omega) HCg.out.1.2.1
                          have hnH := Sl.kept hkH HCg.out.1.2.2 (fun g hg e => by have e1 : ng = g := Option.some.inj hg; exact HLE.out (by omega))
                          have hsz := sizeO_lt (v := v) (b := B) HNB.out.1 HVG.out.1 HNQ.out
                          have hst := sizeT_set (u := some (meetO v B)) HV.out
                          have hsz2 := HSZ.out.2
                          obtain ⟨r1, ho1, ho2⟩ := HOW.out
                          have hmb : LeR ((flwL l).beh m r1) B := by
                            have := (flw_ok l).mono m r1 r0 ho2
                            rw [HBB.out] at this
                            exact this
                          refine ⟨⟨k + 1, V2.set n (some (meetO v B)), true, rfl, by simp, by omega, HWB.out.set ho1 hmb HNB.out (List.mem_of_getElem? HFJ.out) HV.out HNR.out HNQ.out, HDH.out, hbH, hnH, ?_, (fun e => by cases e), (fun _ => by omega), by omega⟩, ?_⟩
                          · by_cases e : n = m
                            · subst e
                              refine ⟨_, List.getElem?_set_self (List.getElem?_eq_some_iff.1 HV.out).1, ?_⟩
                              have h1 := HV.out
                              rw [ho1] at h1
                              cases h1
                              exact LeR.trans (meetR_left (by rw [HVG.out.1 r1 rfl, HNB.out.1])) ho2
                            · exact ⟨r1, by rw [List.getElem?_set_ne e]; exact ho1, ho2⟩
                          · show N.length - ((k : Int) + 1).toNat < N.length - ((k : Int)).toNat
                            omega
                        · have HEQ := Lib.hid (HDS.out.1 rfl)
                          go_wp2_with fail
                          refine ⟨⟨k + 1, V2, ch2, rfl, by simp, by omega, HWB.out, HCf.out.1.1, HCf.out.1.2.1, HCf.out.1.2.2, HOW.out, (fun e => ?_), HSZ.out.1, HSZ.out.2⟩, ?_⟩
                          · obtain ⟨h1, h2, h3⟩ := HED.out e
                            refine ⟨h1, h2, fun j hj => ?_⟩
                            rcases takeN_mem hj with hj | hj
                            · exact h3 j hj
                            · rw [HFJ.out] at hj
                              cases hj
                              exact ⟨v, HV.out, edge_same (fun r hr => by rw [HVG.out.1 r hr, HNB.out.1]) HEQ.out⟩
                          · show N.length - ((k : Int) + 1).toNat < N.length - ((k : Int)).toNat
                            omega
                      · simp only [keep]
                        refine mix_k (by exact HC0.out) fun Q' hQ' => ?_
                        have HC1 := HC0
                        clear HC0
                        go_wp2_with fail
                        have hl17 : gD < w0.heap.size ∧ g14 < w0.heap.size ∧ ng < w0.heap.size := ⟨Sl.lt HC1.out.1.rows gD rfl, HC1.out.2.1.lt, Sl.lt HC1.out.2.2 ng rfl⟩
                        have HC2 : Hid ((fun W => KD w W gD V2 ∧ Blk W g14 99 (dA true B) ∧ Ints W (.slice (some ⟨ng, 0, none⟩) N.length nc) N) (w0.alloc (.cells (dA false noneR) 99))) := Lib.hid ⟨HC1.out.1.quiet ((Kept.refl _ w0).alloc _), HC1.out.2.1.alloc _, Sl.alloc HC1.out.2.2 _⟩
                        have HB16 : Hid (Blk (w0.alloc (.cells (dA false noneR) 99)) w0.heap.size 99 (dA false noneR)) := Lib.hid (Blk.new w0 _ _)
                        refine hQ' _ _ HC2.out ?_
                        clear hQ' Q' HC1
                        generalize w0.heap.size = g17 at *
                        have HL17 := Lib.hid hl17
                        clear hl17
                        refine mix_done ?_
                        try simp only [Act.put, List.setIfInBounds_toArray, List.set_cons_succ, List.set_cons_zero]
                        refine tree_fork1 [true, true, true, true, true, true, true, true, true, false, false] [false, false, false, false, false, false, false, false, false, false, true] (by kernel_rfl) ?_
                        simp only [keep]
                        refine mix_w1 ?_; go_big_quiet_step (fail); refine wpQuiet_nil ?_
                        refine mix_w1 ?_; go_big_quiet_step (fail); refine wpQuiet_nil ?_
                        refine mix_w1 ?_; go_big_quiet_step (fail); refine wpQuiet_nil ?_
                        refine mix_w1 ?_; go_big_quiet_step (fail); refine wpQuiet_nil ?_
                        refine mix_load1 (by exact HC2.out) rfl 3 _ rfl (fun w => by kernel_rfl) ⟨ng, k, none⟩ (.int .i64 n) (by first | rfl | simp) (fun w' hb => Ints.cell hb.2.2 HJZ.out) ?_
                        try simp only [Act.put, List.setIfInBounds_toArray, List.set_cons_succ, List.set_cons_zero]
                        refine mix_w1 ?_; go_big_quiet_step (fail); refine wpQuiet_nil ?_
                        refine mix_loadB (by exact HC2.out) rfl _ 99 rfl aggD HI0.out.1 (dV v) (by rw [HI0.out.2.2.1, dA_sz HVG.out.2]) ⟨gD, n * 45, none⟩ (by first | rfl | simp) (fun w' hb q u hu => by rw [add_n]; exact hb.1.cell HV.out HVG.out.2 q u hu) ?_
                        try simp only [Act.put, List.setIfInBounds_toArray, List.set_cons_succ, List.set_cons_zero]
                        refine mix_loadB (by exact HC2.out) rfl _ 99 rfl aggD HI0.out.1 (dA true B) (by rw [HI0.out.2.2.1, dA_sz HNB.out.1]) ⟨g14, 0, none⟩ (by first | rfl | simp) (fun w' hb q u hu => by rw [add_n, hb.2.1.cell, Nat.zero_add]; exact hu) ?_
                        try simp only [Act.put, List.setIfInBounds_toArray, List.set_cons_succ, List.set_cons_zero]
                        refine mix_k (by exact HC2.out) fun Q' hQ' => ?_
                        go_wp2_with fail
                        refine (rmeet_any v B _ HVG.out.1 HNB.out.1).mono ?_
                        rintro e wZ ⟨rfl, hkM⟩
                        have HCX := Lib.hid (show (fun W => KD w W gD V2 ∧ Blk W g14 99 (dA true B) ∧ Ints W (.slice (some ⟨ng, 0, none⟩) N.length nc) N) wZ from ⟨HC2.out.1.quiet hkM, hkM.blk (fun e => e) HC2.out.2.1, Sl.kept hkM HC2.out.2.2 (fun _ _ e => e)⟩)
                        have HB17 := Lib.hid (hkM.blk (fun e => e) HB16.out)
                        clear hkM HC2 HB16
                        go_wp2_with fail
                        refine hQ' _ _ HCX.out ?_
                        clear hQ' Q'
                        refine mix_done ?_
                        try simp only [Act.put, List.setIfInBounds_toArray, List.set_cons_succ, List.set_cons_zero]
                        refine tree_fork1 [false, false, false, false, false, false, false, false, false, false, true] [false, false, false, false, false, false, false, false, false, false, false] (by kernel_rfl) ?_
                        simp only [keep]
                        refine mix_t fun Q' hQ' => ?_
                        refine wpList_storeB rfl _ _ 99 rfl HI0.out.1 g17 0 99 (dA false noneR) (dA true (meetO v B)) rfl rfl (by rw [HI0.out.2.2.1, dA_sz HML.out]) (by rw [dA_sz HML.out, dA_sz rfl]; omega) (dA_one _ _) (by exact HB17.out) ?_
                        intro wS hbS hkS
                        rw [splice_d rfl HML.out] at hbS
                        refine hQ' _ _ ?_
                        clear hQ' Q'
                        have HCS := Lib.hid (show (fun W => (KD w W gD V2 ∧ Blk W g14 99 (dA true B) ∧ Ints W (.slice (some ⟨ng, 0, none⟩) N.length nc) N) ∧ Blk W g17 99 (dA true (meetO v B))) wS from ⟨⟨HCX.out.1.far hkS (by have := HL17.out; omega), hkS.blk (by have := HL17.out; omega) HCX.out.2.1, Sl.kept hkS HCX.out.2.2 (fun g hg e => by have e1 : ng = g := Option.some.inj hg; have := HL17.out; omega)⟩, hbS⟩)
                        clear hbS hkS HCX HB17
                        refine mix_done ?_
                        try simp only [Act.put, List.setIfInBounds_toArray, List.set_cons_succ, List.set_cons_zero]
                        refine tree_last (by kernel_rfl) ?_
                        simp only [keep]
                        refine mix_done ?_
                        have HCe := Lib.hid (show (fun W => (KD w W gD V2 ∧ Blk W g14 99 (dA true B) ∧ Ints W (.slice (some ⟨ng, 0, none⟩) N.length nc) N) ∧ Blk W g17 99 (dA true (meetO v B))) wS from HCS.out)
                        clear HCS
                        go_wp2_with fail
                        refine wp_region_mix [.l, .w, .w, .w, .w, .l, .w, .l, .l] (by kernel_rfl) (by kernel_rfl) (fun W => (KD w W gD V2 ∧ Blk W g14 99 (dA true B) ∧ Ints W (.slice (some ⟨ng, 0, none⟩) N.length nc) N) ∧ Blk W g17 99 (dA true (meetO v B))) ?_
                        have HCf := Lib.hid (show (fun W => (KD w W gD V2 ∧ Blk W g14 99 (dA true B) ∧ Ints W (.slice (some ⟨ng, 0, none⟩) N.length nc) N) ∧ Blk W g17 99 (dA true (meetO v B))) wS.drew from ⟨⟨HCe.out.1.1.quiet (Kept.refl _ wS).drew, HCe.out.1.2.1, HCe.out.1.2.2⟩, HCe.out.2⟩)
                        clear HCe
                        generalize wS.drew = wF at *
                        refine mix_loadB HCf.out rfl _ 99 rfl aggD HI0.out.1 (dA true (meetO v B)) (by rw [HI0.out.2.2.1, dA_sz HML.out]) ⟨g17, 0, none⟩ (by first | rfl | simp) (fun w' hb q u hu => by rw [add_n, hb.2.cell, Nat.zero_add]; exact hu) ?_
                        try simp only [Act.put, List.setIfInBounds_toArray, List.set_cons_succ, List.set_cons_zero]
                        refine mix_w1 ?_; go_big_quiet_step (fail); refine wpQuiet_nil ?_
                        refine mix_w1 ?_; go_big_quiet_step (fail); refine wpQuiet_nil ?_
                        refine mix_w1 ?_; go_big_quiet_step (fail); refine wpQuiet_nil ?_
                        refine mix_w1 ?_; go_big_quiet_step (fail); refine wpQuiet_nil ?_
                        refine mix_load1 HCf.out rfl 3 _ rfl (fun w => by kernel_rfl) ⟨ng, k, none⟩ (.int .i64 n) (by first | rfl | simp) (fun w' hb => Ints.cell hb.1.2.2 HJZ.out) ?_
                        try simp only [Act.put, List.setIfInBounds_toArray, List.set_cons_succ, List.set_cons_zero]
                        refine mix_w1 ?_; go_big_quiet_step (fail); refine wpQuiet_nil ?_
                        refine mix_loadB HCf.out rfl _ 99 rfl aggD HI0.out.1 (dV v) (by rw [HI0.out.2.2.1, dA_sz HVG.out.2]) ⟨gD, n * 45, none⟩ (by first | rfl | simp) (fun w' hb q u hu => by rw [add_n]; exact hb.1.1.cell HV.out HVG.out.2 q u hu) ?_
                        try simp only [Act.put, List.setIfInBounds_toArray, List.set_cons_succ, List.set_cons_zero]
                        refine mix_val1 HCf.out rfl (.bool (!(decide (true = v.isSome) && decide (meetO v B = v.getD noneR)))) (fun w' hw' => by
                          have h1 := d_neq true v.isSome (meetO v B) (v.getD noneR) HML.out HVG.out.2 w'
                          have h2 : (eqGuard .neq 99 (.tmp 99) (.tmp 106) (.agg (dA true (meetO v B))) (.agg (dV v))).run Tryz.prog w' = .ok () w' := run_eqGuard_agg w' _ _ _ _ _ _ (by kernel_rfl)
                          simp [execOp, Act.eval, h1, h2, Result.andThen]) ?_
                        try simp only [Act.put, List.setIfInBounds_toArray, List.set_cons_succ, List.set_cons_zero]
                        refine mix_nil ?_
                        generalize hdq : (decide (true = v.isSome) && decide (meetO v B = v.getD noneR)) = dq
                        have hds : dq = true ↔ some (meetO v B) = v := by
                          rw [← hdq]
                          cases v with
                          | none => simp
                          | some r => simp
                        have HDS := Lib.hid hds
                        clear hdq hds
                        cases dq
                        · have HNQ := Lib.hid (show some (meetO v B) ≠ v from fun e => by have := HDS.out.2 e; cases this)
                          go_wp2_with fail
                          refine wp_region_mix [.w, .w, .w, .w, .l, .l, .w, .t] (by kernel_rfl) (by kernel_rfl) (fun W => (KD w W gD V2 ∧ Blk W g14 99 (dA true B) ∧ Ints W (.slice (some ⟨ng, 0, none⟩) N.length nc) N) ∧ Blk W g17 99 (dA true (meetO v B))) ?_
                          have HCg := Lib.hid (show (fun W => (KD w W gD V2 ∧ Blk W g14 99 (dA true B) ∧ Ints W (.slice (some ⟨ng, 0, none⟩) N.length nc) N) ∧ Blk W g17 99 (dA true (meetO v B))) wF.drew from ⟨⟨HCf.out.1.1.quiet (Kept.refl _ wF).drew, HCf.out.1.2.1, HCf.out.1.2.2⟩, HCf.out.2⟩)
                          clear HCf
                          generalize wF.drew = wG at *
                          refine mix_w1 ?_; go_big_quiet_step (fail); refine wpQuiet_nil ?_
                          refine mix_w1 ?_; go_big_quiet_step (fail); refine wpQuiet_nil ?_
                          refine mix_w1 ?_; go_big_quiet_step (fail); refine wpQuiet_nil ?_
                          refine mix_w1 ?_; go_big_quiet_step (fail); refine wpQuiet_nil ?_
                          refine mix_load1 HCg.out rfl 3 _ rfl (fun w => by kernel_rfl) ⟨ng, k, none⟩ (.int .i64 n) (by first | rfl | simp) (fun w' hb => Ints.cell hb.1.2.2 HJZ.out) ?_
                          try simp only [Act.put, List.setIfInBounds_toArray, List.set_cons_succ, List.set_cons_zero]
                          refine mix_loadB HCg.out rfl _ 99 rfl aggD HI0.out.1 (dA true (meetO v B)) (by rw [HI0.out.2.2.1, dA_sz HML.out]) ⟨g17, 0, none⟩ (by first | rfl | simp) (fun w' hb q u hu => by rw [add_n, hb.2.cell, Nat.zero_add]; exact hu) ?_
                          try simp only [Act.put, List.setIfInBounds_toArray, List.set_cons_succ, List.set_cons_zero]
                          refine mix_w1 ?_; go_big_quiet_step (fail); refine wpQuiet_nil ?_
                          refine mix_t fun Q' hQ' => ?_
                          refine wpList_storeElem (drow (some (meetO v B))) rfl _ _ 99 rfl HI0.out.1 HI0.out.2.2.1 gD V2.length V2.length n (V2.map drow) (by first | rfl | simp) (by rfl) (drow_len HML.out) (fun y hy => dA_one true (meetO v B) y (by simpa [dA, drow] using hy)) (by exact HCg.out.1.1.rows) (by rw [List.length_map]; exact (List.getElem?_eq_some_iff.1 HV.out).1) ?_
                          intro wH hRH hkH
                          have HDH := Lib.hid (HCg.out.1.1.put hRH hkH)
                          refine hQ' _ _ ?_
                          clear hQ' Q'
                          refine mix_nil ?_
                          go_wp2_with fail
                          have hbH := hkH.blk (by have := HG14.out; omega) HCg.out.1.2.1
                          have hnH := Sl.kept hkH HCg.out.1.2.2 (fun g hg e => by have e1 : ng = g := Option.some.inj hg; exact HLE.out (by omega))
                          have hsz := sizeO_lt (v := v) (b := B) HNB.out.1 HVG.out.1 HNQ.out
                          have hst := sizeT_set (u := some (meetO v B)) HV.out
                          have hsz2 := HSZ.out.2
                          obtain ⟨r1, ho1, ho2⟩ := HOW.out
                          have hmb : LeR ((flwL l).beh m r1) B := by
                            have := (flw_ok l).mono m r1 r0 ho2
                            rw [HBB.out] at this
                            exact this
                          refine ⟨⟨k + 1, V2.set n (some (meetO v B)), true, rfl, by simp, by omega, HWB.out.set ho1 hmb HNB.out (List.mem_of_getElem? HFJ.out) HV.out HNR.out HNQ.out, HDH.out, hbH, hnH, ?_, (fun e => by cases e), (fun _ => by omega), by omega⟩, ?_⟩
                          · by_cases e : n = m
                            · subst e
                              refine ⟨_, List.getElem?_set_self (List.getElem?_eq_some_iff.1 HV.out).1, ?_⟩
                              have h1 := HV.out
                              rw [ho1] at h1
                              cases h1
                              exact LeR.trans (meetR_left (by rw [HVG.out.1 r1 rfl, HNB.out.1])) ho2
                            · exact ⟨r1, by rw [List.getElem?_set_ne e]; exact ho1, ho2⟩
                          · show N.length - ((k : Int) + 1).toNat < N.length - ((k : Int)).toNat
                            omega
                        · have HEQ := Lib.hid (HDS.out.1 rfl)
                          go_wp2_with fail
                          refine ⟨⟨k + 1, V2, ch2, rfl, by simp, by omega, HWB.out, HCf.out.1.1, HCf.out.1.2.1, HCf.out.1.2.2, HOW.out, (fun e => ?_), HSZ.out.1, HSZ.out.2⟩, ?_⟩
                          · obtain ⟨h1, h2, h3⟩ := HED.out e
                            refine ⟨h1, h2, fun j hj => ?_⟩
                            rcases takeN_mem hj with hj | hj
                            · exact h3 j hj
                            · rw [HFJ.out] at hj
                              cases hj
                              exact ⟨v, HV.out, edge_same (fun r hr => by rw [HVG.out.1 r hr, HNB.out.1]) HEQ.out⟩
                          · show N.length - ((k : Int) + 1).toNat < N.length - ((k : Int)).toNat
                            omega
      case pos =>
        obtain ⟨p, hp⟩ : ∃ p, (partsL l)[k]? = some p := ⟨_, List.getElem?_eq_getElem (by omega)⟩
        obtain ⟨f, t, rfl, hft, htl⟩ := HPO.out.nat hp
        have hPr := Sl.kept HKR.out HP4.out (fun g hg e => HNE.out g (.inl hg) e)
        have hBr := Sl.kept HKR.out HB4.out (fun g hg e => HNE.out g (.inr hg) e)
        obtain ⟨sg, scap, hsv, hgl, hc0, hc1⟩ := Pts.at_ hPr hp
        cases hsv
        obtain ⟨og, ocap, hov, hocap, hgo⟩ := Sl.some_ hBr (by rw [List.length_map, rchL_len]; omega)
        rw [List.length_map, rchL_len] at hov
        have hcb := Bls.cell (hov ▸ hBr) (rchL_get (k := f) (by omega))
        subst hov
        have HPP := Lib.hid hp
        generalize hrb : (@decide (Rch l f) (Classical.propDecidable _)) = rb at *
        have HRB := Lib.hid hrb
        clear hp hPr hBr hrb
        cases rb
        · go_wp2_with fail
          refine ⟨⟨k + 1, V, F, Q, by simp, by omega, HS.out.no HPP.out (@of_decide_eq_false _ (Classical.propDecidable _) HRB.out), HM.out, HKR.out⟩, ?_⟩
          show (partsL l).length - ((k : Int) + 1).toNat < (partsL l).length - ((k : Int)).toNat
          omega
        · obtain ⟨v, hv⟩ : ∃ v, V[f]? = some v := ⟨_, List.getElem?_eq_getElem (by omega)⟩
          have hvn : v = none ∨ v = some noneR := by
            cases v with
            | none => exact .inl rfl
            | some r => right; rw [(HS.out.som f r hv).1]
          have hset := Sl.setCell HM.out.rows (i := f) (c := drow v) (by rw [List.getElem?_map, hv]; rfl) (k := 0) (by omega) (.bool true)
          rw [drow_mark hvn] at hset
          have hks : Kept (fun g => g = gD) wr (wr.setCell ⟨gD, f * 45, none⟩ (.bool true)) := Kept.setCell (F := fun g => g = gD) (Kept.refl _ wr) (fun _ => rfl) _
          have HPUT := Lib.hid (HM.out.put (r := noneR) hset hks)
          have HKS := Lib.hid hks
          have hfz := Sl.frozen HM.out.rows (f * 45)
          have hcm := HM.out.met hv
          clear hset hks hv hvn
          go_wp2_with fail
          refine ⟨⟨k + 1, _, _, _, by simp, by omega, HS.out.yes HPP.out (by omega) (@of_decide_eq_true _ (Classical.propDecidable _) HRB.out), HPUT.out, HKR.out.trans HKS.out (fun _ _ e => e)⟩, ?_⟩
          show (partsL l).length - ((k : Int) + 1).toNat < (partsL l).length - ((k : Int)).toNat
          omega

end Go.Proofs.YtdchmelgaljpfaaGreat

set_option linter.unusedSimpArgs false
set_option linter.unusedVariables false
namespace Go.Proofs.YtdchmelgaljpfaaGreat
open Go.RowKit

/-! ### slots that are come to have a row (plain) -/
theorem named_begin {l : List In} (hz : checkI l = 0) {i : Nat} {x : In} {t : Int} (hx : l[i]? = some x) (hr : Rch l i) (ht : namC i x = some t) : t ∈ beginsL l := by
  obtain ⟨hi, hs⟩ := rch_ok hz hr
  have htg : tgtC l i = some t := by
    unfold tgtC
    rw [hx, hs]
    unfold namC at ht
    split at ht
    · rename_i hc
      simpa [hc] using ht
    · cases ht
  exact ((begins_ok (check_parts hz).1).2.1 t).2 (.inr ⟨i, hi, htg⟩)
theorem part_begin {l : List In} {t : Nat} (ht : (t : Int) ∈ beginsL l) : ∃ p ∈ partsL l, p.1 = (t : Int) := by
  obtain ⟨i, hi, e⟩ := List.mem_iff_getElem.1 ht
  refine ⟨partAt (beginsL l) l.length i, ?_, ?_⟩
  · unfold partsL partsOf
    exact List.mem_map.2 ⟨i, List.mem_range.2 hi, rfl⟩
  · unfold partAt
    show (beginsL l).getD i 0 = _
    rw [List.getD_eq_getElem?_getD, List.getElem?_eq_getElem hi, e]
    rfl
theorem KIs.reached {l : List In} {V : List (Option KR)} (h : KIs l V) (hz : checkI l = 0) {i : Nat} (hr : Rch l i) : ∃ r, V[i]? = some (some r) := by
  induction hr with
  | zero =>
    refine ⟨_, h.sol.st 0 ⟨part_begin (t := 0) ?_, Rch.zero⟩⟩
    exact ((begins_ok (check_parts hz).1).2.1 0).2 (.inl rfl)
  | step hi hj ih =>
    rename_i i j
    obtain ⟨r, hr⟩ := ih
    obtain ⟨hil, his⟩ := rch_ok hz hi
    obtain ⟨x, hx⟩ : ∃ x, l[i]? = some x := ⟨_, List.getElem?_eq_getElem hil⟩
    have hj2 := hj
    rw [succ_at hx] at hj2
    rcases List.mem_append.1 hj2 with hn | hn
    · have hm : j ∈ (flwL l).next i := by
        rw [flw_next hx]
        exact List.mem_map.2 ⟨(j : Int), hn, by simp⟩
      obtain ⟨v, hv, hle⟩ := h.sol.step i r hr j hm
      cases v with
      | none => exact hle.elim
      | some r' => exact ⟨r', hv⟩
    · have hc : namC i x = some (j : Int) := by
        cases e : namC i x with
        | none => rw [e] at hn; cases hn
        | some t => rw [e] at hn; simp at hn; rw [hn]
      exact ⟨_, h.sol.st j ⟨part_begin (named_begin hz hx hi hc), hi.step hj⟩⟩
theorem movs_eq {x : In} (ho : InOk x) (hc : clsI x = 4 ∨ clsI x = 7) : (codeI x = 11 ∧ xB x = false) ↔ (x.op = 183 ∨ x.op = 180) := by
  have h := ho.op
  unfold clsI at hc
  unfold codeI xB
  simp only [decide_eq_false_iff_not]
  omega

set_option maxHeartbeats 8000000 in
set_option maxRecDepth 100000 in
theorem rFold_any (l : List In) (a : Option Addr) (c : Nat) (w : World) (h : Ins w (.slice a l.length c) l) (hok : InsOk l) :
    Calls Tryz.prog 10 #[.slice a l.length c] w fun e w' => ∃ ov, e = .returned (.tuple #[ov, .int .i64 (checkI l)]) ∧ (checkI l ≠ 0 → ov = .slice none 0 0) ∧ (checkI l = 0 → ∃ V, KIs l V ∧ InS w' ov (foldL l V)) ∧ Kept (fun _ => False) w w' ∧ ∀ g, ov.ownBlock = some g → w.heap.size ≤ g := by
  have hlen := hok.len
  have HKN := Lib.hid (fun W hI => rKnown_any l a c W hI hok)
  have HRE := Lib.hid (fun W hI hz => rof_any l a c W hI hok hz)
  have HIN := Lib.hid (fun (W : World) (hk : Kept (fun _ => False) w W) => h.kept hk)
  have HOK := Lib.hid hok
  obtain ⟨i0, hI0, hI1, hI2, hI3⟩ := info_parts infoIn
  have HI0 := Lib.hid (And.intro hI0 (And.intro hI1 (And.intro hI2 hI3)))
  have HN0 := Lib.hid (And.intro hI0 (show i0.size = (inVals zeroIn).size from hI2))
  obtain ⟨j0, hJ0, hJ1, hJ2, hJ3⟩ := info_parts infoA3
  have HJ0 := Lib.hid (And.intro hJ0 (And.intro hJ1 (And.intro hJ2 hJ3)))
  clear hI0 hI1 hI2 hI3 hJ0 hJ1 hJ2 hJ3
  by_cases hz : checkI l = 0
  case neg =>
    have hz2 : (checkI l != 0) = true := by simpa using hz
    have HZ := Lib.hid hz
    clear hz h hok
    generalize checkI l = ce at *
    go_enter Tryz.func10, Tryz.ntmps10
    go_wp2_with fail
    refine (HKN.out _ (HIN.out _ (Kept.refl _ w))).mono ?_
    rintro e w1 ⟨kv, rfl, -, -, hk1, -⟩
    go_wp2_with fail
    go_ret2
    exact ⟨_, rfl, fun _ => rfl, fun e => absurd e HZ.out, hk1, fun g hg => by simp [Value.ownBlock] at hg⟩
  case pos =>
    have HZ := Lib.hid hz
    have HRE := Lib.hid (fun W hI => HRE.out W hI hz)
    rw [hz] at HKN
    simp only [hz]
    obtain ⟨hl1, -, -⟩ := slots_zero (check_parts hz).1
    clear h hz hok
    go_enter Tryz.func10, Tryz.ntmps10
    go_wp2_with fail
    refine (HKN.out _ (HIN.out _ (Kept.refl _ w))).mono ?_
    rintro e w1 ⟨kv, rfl, -, hkv, hk1, hko⟩
    obtain ⟨V, hKI, hR⟩ := hkv trivial
    have HKI := Lib.hid hKI
    have HVL := Lib.hid hKI.b.len
    have HR1 := Lib.hid (And.intro hR (And.intro hk1 hko))
    clear hKI hR hk1 hko hkv
    go_wp2_with fail
    refine (HRE.out _ (HIN.out _ HR1.out.2.1)).mono ?_
    rintro e w2 ⟨ov, rfl, hB, hk2, hbo⟩
    have HR2 := Lib.hid (show Sl w2 33 44 kv (V.map vrow) ∧ Bls w2 ov (rchL l) ∧ Kept (fun _ => False) w w2 from ⟨Sl.kept hk2 HR1.out.1 (fun _ _ e => e), hB, HR1.out.2.1.trans hk2 (fun _ _ e => e)⟩)
    clear hB hk2 hbo HR1
    go_wp2_with (at_builtin; refine wpList_appendS (w := w2) rfl _ _ 22 rfl Tryz.underlying22 HI0.out.1 HI0.out.2.1 HI0.out.2.2.1 HI0.out.2.2.2 rfl (.slice none 0 0) (.slice a l.length c) [] l rfl rfl (Sl.nil _ _ _) (HIN.out _ HR2.out.2.2) (by omega) (by simp; omega) ?_; intro cv w3 hO3 hk3 ho3)
    have hk23 : Kept (fun _ => False) w2 w3 := hk3.mono (fun k _ e => by simp [Value.ownBlock] at e)
    rw [List.nil_append] at hO3
    have ho3' : ∀ g, cv.ownBlock = some g → w2.heap.size ≤ g := fun g hg => by
      rcases ho3 g hg with h | h
      · simp [Value.ownBlock] at h
      · exact h
    obtain ⟨og, ocap, rfl, hocap, hol⟩ := Sl.some_ hO3 (by rw [List.length_map]; omega)
    rw [List.length_map] at *
    obtain ⟨kg, kcap, hkvv, hkcap, hkl⟩ := Sl.some_ HR2.out.1 (by rw [List.length_map, HVL.out]; omega)
    obtain ⟨rg, rcap, hrv, hrcap, hrl⟩ := Sl.some_ HR2.out.2.1 (by rw [List.length_map, rchL_len]; omega)
    rw [List.length_map, HVL.out] at hkvv
    rw [List.length_map, rchL_len] at hrv
    subst hkvv hrv
    have hog : w2.heap.size ≤ og := ho3' og rfl
    have hww : w.heap.size ≤ w2.heap.size := HR2.out.2.2.size
    have HRM3 := Lib.hid (show Sl w3 33 44 (.slice (some ⟨kg, 0, none⟩) l.length kcap) (V.map vrow) ∧ Bls w3 (.slice (some ⟨rg, 0, none⟩) l.length rcap) (rchL l) ∧ Kept (fun _ => False) w w3 from ⟨Sl.kept hk23 HR2.out.1 (fun _ _ e => e), Sl.kept hk23 HR2.out.2.1 (fun _ _ e => e), HR2.out.2.2.trans hk23 (fun _ _ e => e)⟩)
    have HO3 := Lib.hid (show InS w3 (.slice (some ⟨og, 0, none⟩) l.length ocap) (prefN (foldL l V) l 0) from by rw [prefN_zero]; exact hO3)
    have HNE := Lib.hid (show kg < og ∧ rg < og ∧ w.heap.size ≤ og from ⟨by omega, by omega, by omega⟩)
    clear hO3 hk3 ho3 hk23 ho3' HR2 hog hww hkl hrl hkcap hrcap hocap hol
    go_wp2_with fail
    go_loopw [8] (fun iv wr => ∃ k : Nat, iv = .int .i64 k ∧ k ≤ l.length ∧ InS wr (.slice (some ⟨og, 0, none⟩) l.length ocap) (prefN (foldL l V) l k) ∧ Kept (fun g => g = og) w3 wr) (fun iv _ => l.length - (intOf iv).toNat)
    case atStart => exact ⟨0, rfl, Nat.zero_le _, HO3.out, Kept.refl _ _⟩
    case round =>
      obtain ⟨k, rfl, hk, hO, hkr⟩ := hrel
      have HO := Lib.hid hO
      have HKR := Lib.hid hkr
      have hne := HNE.out
      have hR := Sl.kept hkr HRM3.out.1 (fun g hg e => by have e1 : kg = g := Option.some.inj hg; omega)
      have hM := Sl.kept hkr HRM3.out.2.1 (fun g hg e => by have e1 : rg = g := Option.some.inj hg; omega)
      have hkw : Kept (fun _ => False) w wr := HRM3.out.2.2.trans hkr (fun g hg e => by omega)
      by_cases hlt : k < l.length
      case neg =>
        obtain rfl : k = l.length := by omega
        have HKW := Lib.hid hkw
        clear hO hkr hR hM hkw hne
        go_wp2_with fail
        go_ret2
        refine ⟨_, rfl, fun e => absurd rfl e, fun _ => ⟨V, HKI.out, ?_⟩, HKW.out, fun g hg => by have e1 : og = g := Option.some.inj hg; have := HNE.out; omega⟩
        have h1 := HO.out
        rw [prefN_end (foldL_len l V)] at h1
        exact h1
      case pos =>
        obtain ⟨v, hv⟩ : ∃ v, V[k]? = some v := ⟨_, List.getElem?_eq_getElem (by rw [HVL.out]; exact hlt)⟩
        obtain ⟨x, hx⟩ : ∃ x, l[k]? = some x := ⟨_, List.getElem?_eq_getElem hlt⟩
        have hmr : ∀ b, @decide (Rch l k) (Classical.propDecidable _) = b → (b = true ↔ v.isSome = true) := fun b hb => by
          subst hb
          refine ⟨fun e => ?_, fun e => ?_⟩
          · obtain ⟨r, hr⟩ := HKI.out.reached HZ.out (@of_decide_eq_true _ (Classical.propDecidable _) e)
            rw [hv] at hr
            cases hr
            rfl
          · cases v with
            | none => cases e
            | some r => exact @decide_eq_true _ (Classical.propDecidable _) (HKI.out.b.rch k r hv)
        have hmc := Bls.cell hM (rchL_get (l := l) (k := k) hlt)
        have hfk := foldL_get hx hv
        have hgmw := Sl.lt hM rg rfl
        have hgrw := Sl.lt hR kg rfl
        have HSM := Lib.hid (fun (e : foldIn x v = x) => prefN_same (foldL_len l V) (hfk.trans (congrArg some e)) hx)
        have HST := Lib.hid (prefN_succ (foldL_len l V) hfk)
        have HXO := Lib.hid (HOK.out.at_ hx)
        have HRT := Lib.hid (fun (r : KR) (e : v = some r) => right_of HZ.out hx (rch_ok HZ.out (HKI.out.b.rch k r (by rw [hv, e]))).2)
        have HCL := Lib.hid (fun W => rclass_any x W (HOK.out.at_ hx))
        have HCD := Lib.hid (fun W => rcode_any x W (HOK.out.at_ hx))
        have HXX := Lib.hid (fun W => rx_any x W (HOK.out.at_ hx))
        have HMV := Lib.hid (movs_eq (HOK.out.at_ hx))
        obtain ⟨gp, op, ep, zp, p0, p1, p2, p3, p4⟩ := (HIN.out _ hkw).at_ hx
        cases ep
        have HV := Lib.hid hv
        have HR := Lib.hid hR
        have hka := (Kept.refl (fun _ => False) wr).alloc (.cells (inVals x) 75)
        have HA := Lib.hid (And.intro hka (Blk.new wr 75 (inVals x)))
        generalize hrb : @decide (Rch l k) (Classical.propDecidable _) = rb at *
        have HMR := Lib.hid (hmr rb rfl)
        clear hv hx hO hkr hR hM hkw hfk hka hmr hrb hne
        go_wp2_with fail
        refine (HCL.out _).mono ?_
        rintro e wb ⟨rfl, rfl⟩
        have HB := Lib.hid (show Kept (fun _ => False) wr ((wr.alloc (.cells (inVals x) 75)).alloc (.cells (inVals x) 75)) ∧ Blk ((wr.alloc (.cells (inVals x) 75)).alloc (.cells (inVals x) 75)) wr.heap.size 75 (inVals x) from ⟨HA.out.1.alloc _, HA.out.2.alloc _⟩)
        clear HA
        cases v with
        | none =>
          have hrf : rb = false := by
            cases rb
            · rfl
            · have := HMR.out.1 rfl; cases this
          subst hrf
          go_wp2_with fail
          refine ⟨⟨k + 1, by simp, by omega, by rw [HSM.out rfl]; exact Sl.kept HB.out.1 HO.out (fun _ _ e => e), HKR.out.trans HB.out.1 (fun _ _ e => e.elim)⟩, ?_⟩
          show l.length - ((k : Int) + 1).toNat < l.length - ((k : Int)).toNat
          omega
        | some r =>
          have hrt : rb = true := HMR.out.2 rfl
          subst hrt
          generalize (wr.alloc (.cells (inVals x) 75)).alloc (.cells (inVals x) 75) = wb at *
          have q0 : wb.cell? ⟨wr.heap.size, 0, none⟩ = some (.int .u8 x.op) := by rw [HB.out.2.cell]; rfl
          have q1 : wb.cell? ⟨wr.heap.size, 1, none⟩ = some (.int .u8 x.dst) := by rw [HB.out.2.cell]; rfl
          have q2 : wb.cell? ⟨wr.heap.size, 2, none⟩ = some (.int .u8 x.src) := by rw [HB.out.2.cell]; rfl
          have q3 : wb.cell? ⟨wr.heap.size, 3, none⟩ = some (.int .i16 x.off) := by rw [HB.out.2.cell]; rfl
          have q4 : wb.cell? ⟨wr.heap.size, 4, none⟩ = some (.int .i32 x.imm) := by rw [HB.out.2.cell]; rfl
          have hrl : r.length = 11 := (HKI.out.b.num k r HV.out).1
          have HL := Lib.hid hrl
          have hfi : foldIn x (some r) = if ((clsI x != 4 && clsI x != 7) || x.op == 183 || x.op == 180) = true then x else foldR x (resR x r) := rfl
          have hari : (clsI x = 4 ∨ clsI x = 7) → Ari x r := fun e => ari_of HXO.out (HRT.out r rfl) hrl (HKI.out.b.num k r HV.out).2 e
          have HAR := Lib.hid hari
          have HFI := Lib.hid hfi
          have hRTX := HRT.out r rfl
          have HRTX := Lib.hid hRTX
          have HCC : Hid ((clsI x = 4 ∨ clsI x = 7) ↔ (clsI x != 4 && clsI x != 7) = false) := Lib.hid (by simp; omega)
          clear hfi hari hrl hRTX p0 p1 p2 p3 p4
          have hmcb : wb.cell? ⟨rg, k, none⟩ = some (.bool true) := (HB.out.1.cell (p := ⟨rg, k, none⟩) hgmw (fun e => e)).trans hmc
          clear hmc
          generalize hb4 : (clsI x != 4) = b4 at *
          generalize hb7 : (clsI x != 7) = b7 at *
          have hcases : (b4 = true ∧ b7 = true) ∨ (b4 = false) ∨ (b4 = true ∧ b7 = false) := by
            cases b4 <;> cases b7 <;> simp
          rcases hcases with ⟨rfl, rfl⟩ | rfl | ⟨rfl, rfl⟩
          · go_wp2_with fail
            refine ⟨⟨k + 1, by simp, by omega, by rw [HSM.out (by rw [HFI.out]; simp)]; exact Sl.kept HB.out.1 HO.out (fun _ _ e => e), HKR.out.trans HB.out.1 (fun _ _ e => e.elim)⟩, ?_⟩
            show l.length - ((k : Int) + 1).toNat < l.length - ((k : Int)).toNat
            omega
          · have hmvx := HMV.out (HCC.out.2 (by simp))
            have HMX := Lib.hid hmvx
            clear hmvx
            go_wp2_with fail
            refine (HCD.out _).mono ?_
            rintro e wc ⟨rfl, rfl⟩
            have HB2 := Lib.hid (show Kept (fun _ => False) wr (wb.alloc (.cells (inVals x) 75)) ∧ Blk (wb.alloc (.cells (inVals x) 75)) wr.heap.size 75 (inVals x) from ⟨HB.out.1.alloc _, HB.out.2.alloc _⟩)
            clear HB q0 q1 q2 q3 q4
            generalize wb.alloc (.cells (inVals x) 75) = wb2 at *
            have q0 : wb2.cell? ⟨wr.heap.size, 0, none⟩ = some (.int .u8 x.op) := by rw [HB2.out.2.cell]; rfl
            have q1 : wb2.cell? ⟨wr.heap.size, 1, none⟩ = some (.int .u8 x.dst) := by rw [HB2.out.2.cell]; rfl
            have q2 : wb2.cell? ⟨wr.heap.size, 2, none⟩ = some (.int .u8 x.src) := by rw [HB2.out.2.cell]; rfl
            have q3 : wb2.cell? ⟨wr.heap.size, 3, none⟩ = some (.int .i16 x.off) := by rw [HB2.out.2.cell]; rfl
            have q4 : wb2.cell? ⟨wr.heap.size, 4, none⟩ = some (.int .i32 x.imm) := by rw [HB2.out.2.cell]; rfl
            generalize hkk : codeI x = kk at *
            by_cases k11 : kk = 11
            · subst k11
              go_wp2_with fail
              refine (HXX.out _).mono ?_
              rintro e wc ⟨rfl, rfl⟩
              have HB3 := Lib.hid (show Kept (fun _ => False) wr (wb2.alloc (.cells (inVals x) 75)) ∧ Blk (wb2.alloc (.cells (inVals x) 75)) wr.heap.size 75 (inVals x) from ⟨HB2.out.1.alloc _, HB2.out.2.alloc _⟩)
              clear HB2 q0 q1 q2 q3 q4
              generalize wb2.alloc (.cells (inVals x) 75) = wb3 at *
              have q0 : wb3.cell? ⟨wr.heap.size, 0, none⟩ = some (.int .u8 x.op) := by rw [HB3.out.2.cell]; rfl
              have q1 : wb3.cell? ⟨wr.heap.size, 1, none⟩ = some (.int .u8 x.dst) := by rw [HB3.out.2.cell]; rfl
              have q2 : wb3.cell? ⟨wr.heap.size, 2, none⟩ = some (.int .u8 x.src) := by rw [HB3.out.2.cell]; rfl
              have q3 : wb3.cell? ⟨wr.heap.size, 3, none⟩ = some (.int .i16 x.off) := by rw [HB3.out.2.cell]; rfl
              have q4 : wb3.cell? ⟨wr.heap.size, 4, none⟩ = some (.int .i32 x.imm) := by rw [HB3.out.2.cell]; rfl
              generalize hxx : xB x = xb at *
              cases xb
              · go_wp2_with fail
                refine ⟨⟨k + 1, by simp, by omega, by rw [HSM.out (by rw [HFI.out]; have := HMX.out.1 (by simp); rcases this with h | h <;> simp [h])]; exact Sl.kept HB3.out.1 HO.out (fun _ _ e => e), HKR.out.trans HB3.out.1 (fun _ _ e => e.elim)⟩, ?_⟩
                show l.length - ((k : Int) + 1).toNat < l.length - ((k : Int)).toNat
                omega
              · have HNM : Hid (¬ (x.op = 183 ∨ x.op = 180)) := Lib.hid (fun e => by have := (HMX.out.2 e).2; cases this)
                go_wp2_with fail
                have HRS := Lib.hid (fun W => rresult_any x r W (HAR.out (HCC.out.2 (by simp))) HRTX.out)
                have HFR := Lib.hid (show foldIn x (some r) = foldR x (resR x r) from by
                  rw [HFI.out, if_neg]
                  have := HNM.out
                  simp
                  omega)
                refine wp_region_mix [.l, .w, .w, .w, .l, .k, .w, .w, .w, .w, .w] (by kernel_rfl) (by kernel_rfl) (fun W => Kept (fun _ => False) wr W ∧ Blk W wr.heap.size 75 (inVals x)) ?_
                have HA2 := Lib.hid (show Kept (fun _ => False) wr wb3.drew ∧ Blk wb3.drew wr.heap.size 75 (inVals x) from ⟨HB3.out.1.drew, HB3.out.2⟩)
                clear HB3 q0 q1 q2 q3 q4
                generalize wb3.drew = wa at *
                refine mix_loadB HA2.out rfl _ 75 rfl aggIn HN0.out.1 (inVals x) (by exact HN0.out.2) ⟨wr.heap.size, 0, none⟩ (by first | rfl | simp) (fun w' hb q u hu => by rw [add_n, hb.2.cell, Nat.zero_add]; exact hu) ?_
                try simp only [Act.put, List.setIfInBounds_toArray, List.set_cons_succ, List.set_cons_zero]
                refine mix_w1 ?_; go_big_quiet_step (fail); refine wpQuiet_nil ?_
                refine mix_w1 ?_; go_big_quiet_step (fail); refine wpQuiet_nil ?_
                refine mix_w1 ?_; go_big_quiet_step (fail); refine wpQuiet_nil ?_
                refine mix_loadB HA2.out rfl _ 33 rfl aggArr HJ0.out.1 (rowA r) (by rw [HJ0.out.2.2.1, rowA_sz HL.out]) ⟨kg, k * 44, none⟩ (by first | rfl | simp) (fun w' hb q u hu => by
                    rw [add_n]
                    have hq : q < 44 := by
                      have := (Array.getElem?_eq_some_iff.1 hu).1
                      rw [rowA_sz HL.out] at this
                      exact this
                    have := Sl.cell (Sl.kept hb.1 HR.out (fun _ _ e => e)) (i := k) (c := vrow (some r)) (by rw [List.getElem?_map, HV.out]; rfl) hq
                    rw [this]
                    simpa [vrow, rowA] using hu) ?_
                try simp only [Act.put, List.setIfInBounds_toArray, List.set_cons_succ, List.set_cons_zero]
                refine mix_k (by exact HA2.out) fun Q' hQ' => ?_
                go_wp2_with fail
                refine (HRS.out _).mono ?_
                rintro e wz ⟨rfl, hkb⟩
                have HB9 := Lib.hid (show Kept (fun _ => False) wr wz ∧ Blk wz wr.heap.size 75 (inVals x) from ⟨HA2.out.1.trans hkb (fun _ _ e => e), hkb.blk (fun e => e) HA2.out.2⟩)
                go_wp2_with fail
                refine hQ' _ _ HB9.out ?_
                clear hQ' Q' hkb HA2
                generalize hrr : resR x r = rr at *
                cases rr with
                | none =>
                  simp only [Option.getD_none, Option.isSome_none]
                  refine mix_w1 ?_; go_big_quiet_step (fail); refine wpQuiet_nil ?_
                  refine mix_w1 ?_; go_big_quiet_step (fail); refine wpQuiet_nil ?_
                  refine mix_w1 ?_; go_big_quiet_step (fail); refine wpQuiet_nil ?_
                  refine mix_w1 ?_; go_big_quiet_step (fail); refine wpQuiet_nil ?_
                  refine mix_w1 ?_; go_big_quiet_step (fail); refine wpQuiet_nil ?_
                  refine mix_nil ?_
                  go_wp2_with fail
                  refine ⟨⟨k + 1, by simp, by omega, by rw [HSM.out (by rw [HFR.out]; rfl)]; exact Sl.kept HB9.out.1 HO.out (fun _ _ e => e), HKR.out.trans HB9.out.1 (fun _ _ e => e.elim)⟩, ?_⟩
                  show l.length - ((k : Int) + 1).toNat < l.length - ((k : Int)).toNat
                  omega
                | some n =>
                  simp only [Option.getD_some, Option.isSome_some]
                  have HSG := Lib.hid (fun W => rsign_any (lowI n) W (lowI_rng n))
                  have hlow := lowI_eq n
                  refine mix_w1 ?_; go_big_quiet_step (fail); refine wpQuiet_nil ?_
                  refine mix_w1 ?_; go_big_quiet_step (fail); refine wpQuiet_nil ?_
                  refine mix_w1 ?_; go_big_quiet_step (fail); refine wpQuiet_nil ?_
                  refine mix_w1 ?_; go_big_quiet_step (fail); refine wpQuiet_nil ?_
                  refine mix_w1 ?_; go_big_quiet_step (fail); refine wpQuiet_nil ?_
                  refine mix_nil ?_
                  go_wp2_with fail
                  refine (HSG.out _).mono ?_
                  rintro e wc ⟨rfl, rfl⟩
                  have q1 : wz.cell? ⟨wr.heap.size, 1, none⟩ = some (.int .u8 x.dst) := by rw [HB9.out.2.cell]; rfl
                  try rw [hlow]
                  by_cases hsn : signN (lowI n) = n
                  · have HFE := Lib.hid (show foldIn x (some r) = ⟨183, x.dst, 0, 0, lowI n⟩ by rw [HFR.out]; show (if signN (lowI n) = n then _ else _) = _; rw [if_pos hsn])
                    rw [hsn]
                    clear hlow hsn
                    generalize lowI n = im at *
                    go_wp2_with (refine wpList_storeElem (icells ⟨183, x.dst, 0, 0, im⟩) rfl _ _ 75 rfl HI0.out.1 HI0.out.2.2.1 og l.length ocap k ((prefN (foldL l V) l k).map icells) rfl (by rfl) (by rfl) (icells_len [⟨183, x.dst, 0, 0, im⟩] _ (by simp)).2 (by exact Sl.kept HB9.out.1 HO.out (fun _ _ e => e)) (by rw [List.length_map, prefN_len (foldL_len l V)]; exact hlt) ?_; intro w5 hO5 hk5)
                    refine ⟨⟨k + 1, by simp, by omega, by rw [HST.out, HFE.out]; unfold InS; rw [List.map_set]; exact hO5, (HKR.out.trans HB9.out.1 (fun _ _ e => e.elim)).trans hk5 (fun _ _ e => e)⟩, ?_⟩
                    show l.length - ((k : Int) + 1).toNat < l.length - ((k : Int)).toNat
                    omega
                  · have HFE := Lib.hid (show foldIn x (some r) = x by rw [HFR.out]; show (if signN (lowI n) = n then _ else _) = _; rw [if_neg hsn])
                    generalize hss : signN (lowI n) = s at *
                    have hne : ((s : Int) == (n : Int)) = false := by
                      have : ¬ (s : Int) = (n : Int) := fun e => hsn (Int.ofNat_inj.1 e)
                      simpa using this
                    clear hsn hss
                    go_wp2_with fail
                    refine ⟨⟨k + 1, by simp, by omega, by rw [HSM.out HFE.out]; exact Sl.kept HB9.out.1 HO.out (fun _ _ e => e), HKR.out.trans HB9.out.1 (fun _ _ e => e.elim)⟩, ?_⟩
                    show l.length - ((k : Int) + 1).toNat < l.length - ((k : Int)).toNat
                    omega
            · have hk11 : (kk == 11) = false := by simpa using k11
              have HNM : Hid (¬ (x.op = 183 ∨ x.op = 180)) := Lib.hid (fun e => k11 (HMX.out.2 e).1)
              go_wp2_with fail
              have HRS := Lib.hid (fun W => rresult_any x r W (HAR.out (HCC.out.2 (by simp))) HRTX.out)
              have HFR := Lib.hid (show foldIn x (some r) = foldR x (resR x r) from by
                rw [HFI.out, if_neg]
                have := HNM.out
                simp
                omega)
              refine wp_region_mix [.l, .w, .w, .w, .l, .k, .w, .w, .w, .w, .w] (by kernel_rfl) (by kernel_rfl) (fun W => Kept (fun _ => False) wr W ∧ Blk W wr.heap.size 75 (inVals x)) ?_
              have HA2 := Lib.hid (show Kept (fun _ => False) wr wb2.drew ∧ Blk wb2.drew wr.heap.size 75 (inVals x) from ⟨HB2.out.1.drew, HB2.out.2⟩)
              clear HB2 q0 q1 q2 q3 q4
              generalize wb2.drew = wa at *
              refine mix_loadB HA2.out rfl _ 75 rfl aggIn HN0.out.1 (inVals x) (by exact HN0.out.2) ⟨wr.heap.size, 0, none⟩ (by first | rfl | simp) (fun w' hb q u hu => by rw [add_n, hb.2.cell, Nat.zero_add]; exact hu) ?_
              try simp only [Act.put, List.setIfInBounds_toArray, List.set_cons_succ, List.set_cons_zero]
              refine mix_w1 ?_; go_big_quiet_step (fail); refine wpQuiet_nil ?_
              refine mix_w1 ?_; go_big_quiet_step (fail); refine wpQuiet_nil ?_
              refine mix_w1 ?_; go_big_quiet_step (fail); refine wpQuiet_nil ?_
              refine mix_loadB HA2.out rfl _ 33 rfl aggArr HJ0.out.1 (rowA r) (by rw [HJ0.out.2.2.1, rowA_sz HL.out]) ⟨kg, k * 44, none⟩ (by first | rfl | simp) (fun w' hb q u hu => by
                  rw [add_n]
                  have hq : q < 44 := by
                    have := (Array.getElem?_eq_some_iff.1 hu).1
                    rw [rowA_sz HL.out] at this
                    exact this
                  have := Sl.cell (Sl.kept hb.1 HR.out (fun _ _ e => e)) (i := k) (c := vrow (some r)) (by rw [List.getElem?_map, HV.out]; rfl) hq
                  rw [this]
                  simpa [vrow, rowA] using hu) ?_
              try simp only [Act.put, List.setIfInBounds_toArray, List.set_cons_succ, List.set_cons_zero]
              refine mix_k (by exact HA2.out) fun Q' hQ' => ?_
              go_wp2_with fail
              refine (HRS.out _).mono ?_
              rintro e wz ⟨rfl, hkb⟩
              have HB9 := Lib.hid (show Kept (fun _ => False) wr wz ∧ Blk wz wr.heap.size 75 (inVals x) from ⟨HA2.out.1.trans hkb (fun _ _ e => e), hkb.blk (fun e => e) HA2.out.2⟩)
              go_wp2_with fail
              refine hQ' _ _ HB9.out ?_
              clear hQ' Q' hkb HA2
              generalize hrr : resR x r = rr at *
              cases rr with
              | none =>
                simp only [Option.getD_none, Option.isSome_none]
                refine mix_w1 ?_; go_big_quiet_step (fail); refine wpQuiet_nil ?_
                refine mix_w1 ?_; go_big_quiet_step (fail); refine wpQuiet_nil ?_
                refine mix_w1 ?_; go_big_quiet_step (fail); refine wpQuiet_nil ?_
                refine mix_w1 ?_; go_big_quiet_step (fail); refine wpQuiet_nil ?_
                refine mix_w1 ?_; go_big_quiet_step (fail); refine wpQuiet_nil ?_
                refine mix_nil ?_
                go_wp2_with fail
                refine ⟨⟨k + 1, by simp, by omega, by rw [HSM.out (by rw [HFR.out]; rfl)]; exact Sl.kept HB9.out.1 HO.out (fun _ _ e => e), HKR.out.trans HB9.out.1 (fun _ _ e => e.elim)⟩, ?_⟩
                show l.length - ((k : Int) + 1).toNat < l.length - ((k : Int)).toNat
                omega
              | some n =>
                simp only [Option.getD_some, Option.isSome_some]
                have HSG := Lib.hid (fun W => rsign_any (lowI n) W (lowI_rng n))
                have hlow := lowI_eq n
                refine mix_w1 ?_; go_big_quiet_step (fail); refine wpQuiet_nil ?_
                refine mix_w1 ?_; go_big_quiet_step (fail); refine wpQuiet_nil ?_
                refine mix_w1 ?_; go_big_quiet_step (fail); refine wpQuiet_nil ?_
                refine mix_w1 ?_; go_big_quiet_step (fail); refine wpQuiet_nil ?_
                refine mix_w1 ?_; go_big_quiet_step (fail); refine wpQuiet_nil ?_
                refine mix_nil ?_
                go_wp2_with fail
                refine (HSG.out _).mono ?_
                rintro e wc ⟨rfl, rfl⟩
                have q1 : wz.cell? ⟨wr.heap.size, 1, none⟩ = some (.int .u8 x.dst) := by rw [HB9.out.2.cell]; rfl
                try rw [hlow]
                by_cases hsn : signN (lowI n) = n
                · have HFE := Lib.hid (show foldIn x (some r) = ⟨183, x.dst, 0, 0, lowI n⟩ by rw [HFR.out]; show (if signN (lowI n) = n then _ else _) = _; rw [if_pos hsn])
                  rw [hsn]
                  clear hlow hsn
                  generalize lowI n = im at *
                  go_wp2_with (refine wpList_storeElem (icells ⟨183, x.dst, 0, 0, im⟩) rfl _ _ 75 rfl HI0.out.1 HI0.out.2.2.1 og l.length ocap k ((prefN (foldL l V) l k).map icells) rfl (by rfl) (by rfl) (icells_len [⟨183, x.dst, 0, 0, im⟩] _ (by simp)).2 (by exact Sl.kept HB9.out.1 HO.out (fun _ _ e => e)) (by rw [List.length_map, prefN_len (foldL_len l V)]; exact hlt) ?_; intro w5 hO5 hk5)
                  refine ⟨⟨k + 1, by simp, by omega, by rw [HST.out, HFE.out]; unfold InS; rw [List.map_set]; exact hO5, (HKR.out.trans HB9.out.1 (fun _ _ e => e.elim)).trans hk5 (fun _ _ e => e)⟩, ?_⟩
                  show l.length - ((k : Int) + 1).toNat < l.length - ((k : Int)).toNat
                  omega
                · have HFE := Lib.hid (show foldIn x (some r) = x by rw [HFR.out]; show (if signN (lowI n) = n then _ else _) = _; rw [if_neg hsn])
                  generalize hss : signN (lowI n) = s at *
                  have hne : ((s : Int) == (n : Int)) = false := by
                    have : ¬ (s : Int) = (n : Int) := fun e => hsn (Int.ofNat_inj.1 e)
                    simpa using this
                  clear hsn hss
                  go_wp2_with fail
                  refine ⟨⟨k + 1, by simp, by omega, by rw [HSM.out HFE.out]; exact Sl.kept HB9.out.1 HO.out (fun _ _ e => e), HKR.out.trans HB9.out.1 (fun _ _ e => e.elim)⟩, ?_⟩
                  show l.length - ((k : Int) + 1).toNat < l.length - ((k : Int)).toNat
                  omega
          · have hmvx := HMV.out (HCC.out.2 (by simp))
            have HMX := Lib.hid hmvx
            clear hmvx
            go_wp2_with fail
            refine (HCD.out _).mono ?_
            rintro e wc ⟨rfl, rfl⟩
            have HB2 := Lib.hid (show Kept (fun _ => False) wr (wb.alloc (.cells (inVals x) 75)) ∧ Blk (wb.alloc (.cells (inVals x) 75)) wr.heap.size 75 (inVals x) from ⟨HB.out.1.alloc _, HB.out.2.alloc _⟩)
            clear HB q0 q1 q2 q3 q4
            generalize wb.alloc (.cells (inVals x) 75) = wb2 at *
            have q0 : wb2.cell? ⟨wr.heap.size, 0, none⟩ = some (.int .u8 x.op) := by rw [HB2.out.2.cell]; rfl
            have q1 : wb2.cell? ⟨wr.heap.size, 1, none⟩ = some (.int .u8 x.dst) := by rw [HB2.out.2.cell]; rfl
            have q2 : wb2.cell? ⟨wr.heap.size, 2, none⟩ = some (.int .u8 x.src) := by rw [HB2.out.2.cell]; rfl
            have q3 : wb2.cell? ⟨wr.heap.size, 3, none⟩ = some (.int .i16 x.off) := by rw [HB2.out.2.cell]; rfl
            have q4 : wb2.cell? ⟨wr.heap.size, 4, none⟩ = some (.int .i32 x.imm) := by rw [HB2.out.2.cell]; rfl
            generalize hkk : codeI x = kk at *
            by_cases k11 : kk = 11
            · subst k11
              go_wp2_with fail
              refine (HXX.out _).mono ?_
              rintro e wc ⟨rfl, rfl⟩
              have HB3 := Lib.hid (show Kept (fun _ => False) wr (wb2.alloc (.cells (inVals x) 75)) ∧ Blk (wb2.alloc (.cells (inVals x) 75)) wr.heap.size 75 (inVals x) from ⟨HB2.out.1.alloc _, HB2.out.2.alloc _⟩)
              clear HB2 q0 q1 q2 q3 q4
              generalize wb2.alloc (.cells (inVals x) 75) = wb3 at *
              have q0 : wb3.cell? ⟨wr.heap.size, 0, none⟩ = some (.int .u8 x.op) := by rw [HB3.out.2.cell]; rfl
              have q1 : wb3.cell? ⟨wr.heap.size, 1, none⟩ = some (.int .u8 x.dst) := by rw [HB3.out.2.cell]; rfl
              have q2 : wb3.cell? ⟨wr.heap.size, 2, none⟩ = some (.int .u8 x.src) := by rw [HB3.out.2.cell]; rfl
              have q3 : wb3.cell? ⟨wr.heap.size, 3, none⟩ = some (.int .i16 x.off) := by rw [HB3.out.2.cell]; rfl
              have q4 : wb3.cell? ⟨wr.heap.size, 4, none⟩ = some (.int .i32 x.imm) := by rw [HB3.out.2.cell]; rfl
              generalize hxx : xB x = xb at *
              cases xb
              · go_wp2_with fail
                refine ⟨⟨k + 1, by simp, by omega, by rw [HSM.out (by rw [HFI.out]; have := HMX.out.1 (by simp); rcases this with h | h <;> simp [h])]; exact Sl.kept HB3.out.1 HO.out (fun _ _ e => e), HKR.out.trans HB3.out.1 (fun _ _ e => e.elim)⟩, ?_⟩
                show l.length - ((k : Int) + 1).toNat < l.length - ((k : Int)).toNat
                omega
              · have HNM : Hid (¬ (x.op = 183 ∨ x.op = 180)) := Lib.hid (fun e => by have := (HMX.out.2 e).2; cases this)
                go_wp2_with fail
                have HRS := Lib.hid (fun W => rresult_any x r W (HAR.out (HCC.out.2 (by simp))) HRTX.out)
                have HFR := Lib.hid (show foldIn x (some r) = foldR x (resR x r) from by
                  rw [HFI.out, if_neg]
                  have := HNM.out
                  simp
                  omega)
                refine wp_region_mix [.l, .w, .w, .w, .l, .k, .w, .w, .w, .w, .w] (by kernel_rfl) (by kernel_rfl) (fun W => Kept (fun _ => False) wr W ∧ Blk W wr.heap.size 75 (inVals x)) ?_
                have HA2 := Lib.hid (show Kept (fun _ => False) wr wb3.drew ∧ Blk wb3.drew wr.heap.size 75 (inVals x) from ⟨HB3.out.1.drew, HB3.out.2⟩)
                clear HB3 q0 q1 q2 q3 q4
                generalize wb3.drew = wa at *
                refine mix_loadB HA2.out rfl _ 75 rfl aggIn HN0.out.1 (inVals x) (by exact HN0.out.2) ⟨wr.heap.size, 0, none⟩ (by first | rfl | simp) (fun w' hb q u hu => by rw [add_n, hb.2.cell, Nat.zero_add]; exact hu) ?_
                try simp only [Act.put, List.setIfInBounds_toArray, List.set_cons_succ, List.set_cons_zero]
                refine mix_w1 ?_; go_big_quiet_step (fail); refine wpQuiet_nil ?_
                refine mix_w1 ?_; go_big_quiet_step (fail); refine wpQuiet_nil ?_
                refine mix_w1 ?_; go_big_quiet_step (fail); refine wpQuiet_nil ?_
                refine mix_loadB HA2.out rfl _ 33 rfl aggArr HJ0.out.1 (rowA r) (by rw [HJ0.out.2.2.1, rowA_sz HL.out]) ⟨kg, k * 44, none⟩ (by first | rfl | simp) (fun w' hb q u hu => by
                    rw [add_n]
                    have hq : q < 44 := by
                      have := (Array.getElem?_eq_some_iff.1 hu).1
                      rw [rowA_sz HL.out] at this
                      exact this
                    have := Sl.cell (Sl.kept hb.1 HR.out (fun _ _ e => e)) (i := k) (c := vrow (some r)) (by rw [List.getElem?_map, HV.out]; rfl) hq
                    rw [this]
                    simpa [vrow, rowA] using hu) ?_
                try simp only [Act.put, List.setIfInBounds_toArray, List.set_cons_succ, List.set_cons_zero]
                refine mix_k (by exact HA2.out) fun Q' hQ' => ?_
                go_wp2_with fail
                refine (HRS.out _).mono ?_
                rintro e wz ⟨rfl, hkb⟩
                have HB9 := Lib.hid (show Kept (fun _ => False) wr wz ∧ Blk wz wr.heap.size 75 (inVals x) from ⟨HA2.out.1.trans hkb (fun _ _ e => e), hkb.blk (fun e => e) HA2.out.2⟩)
                go_wp2_with fail
                refine hQ' _ _ HB9.out ?_
                clear hQ' Q' hkb HA2
                generalize hrr : resR x r = rr at *
                cases rr with
                | none =>
                  simp only [Option.getD_none, Option.isSome_none]
                  refine mix_w1 ?_; go_big_quiet_step (fail); refine wpQuiet_nil ?_
                  refine mix_w1 ?_; go_big_quiet_step (fail); refine wpQuiet_nil ?_
                  refine mix_w1 ?_; go_big_quiet_step (fail); refine wpQuiet_nil ?_
                  refine mix_w1 ?_; go_big_quiet_step (fail); refine wpQuiet_nil ?_
                  refine mix_w1 ?_; go_big_quiet_step (fail); refine wpQuiet_nil ?_
                  refine mix_nil ?_
                  go_wp2_with fail
                  refine ⟨⟨k + 1, by simp, by omega, by rw [HSM.out (by rw [HFR.out]; rfl)]; exact Sl.kept HB9.out.1 HO.out (fun _ _ e => e), HKR.out.trans HB9.out.1 (fun _ _ e => e.elim)⟩, ?_⟩
                  show l.length - ((k : Int) + 1).toNat < l.length - ((k : Int)).toNat
                  omega
                | some n =>
                  simp only [Option.getD_some, Option.isSome_some]
                  have HSG := Lib.hid (fun W => rsign_any (lowI n) W (lowI_rng n))
                  have hlow := lowI_eq n
                  refine mix_w1 ?_; go_big_quiet_step (fail); refine wpQuiet_nil ?_
                  refine mix_w1 ?_; go_big_quiet_step (fail); refine wpQuiet_nil ?_
                  refine mix_w1 ?_; go_big_quiet_step (fail); refine wpQuiet_nil ?_
                  refine mix_w1 ?_; go_big_quiet_step (fail); refine wpQuiet_nil ?_
                  refine mix_w1 ?_; go_big_quiet_step (fail); refine wpQuiet_nil ?_
                  refine mix_nil ?_
                  go_wp2_with fail
                  refine (HSG.out _).mono ?_
                  rintro e wc ⟨rfl, rfl⟩
                  have q1 : wz.cell? ⟨wr.heap.size, 1, none⟩ = some (.int .u8 x.dst) := by rw [HB9.out.2.cell]; rfl
                  try rw [hlow]
                  by_cases hsn : signN (lowI n) = n
                  · have HFE := Lib.hid (show foldIn x (some r) = ⟨183, x.dst, 0, 0, lowI n⟩ by rw [HFR.out]; show (if signN (lowI n) = n then _ else _) = _; rw [if_pos hsn])
                    rw [hsn]
                    clear hlow hsn
                    generalize lowI n = im at *
                    go_wp2_with (refine wpList_storeElem (icells ⟨183, x.dst, 0, 0, im⟩) rfl _ _ 75 rfl HI0.out.1 HI0.out.2.2.1 og l.length ocap k ((prefN (foldL l V) l k).map icells) rfl (by rfl) (by rfl) (icells_len [⟨183, x.dst, 0, 0, im⟩] _ (by simp)).2 (by exact Sl.kept HB9.out.1 HO.out (fun _ _ e => e)) (by rw [List.length_map, prefN_len (foldL_len l V)]; exact hlt) ?_; intro w5 hO5 hk5)
                    refine ⟨⟨k + 1, by simp, by omega, by rw [HST.out, HFE.out]; unfold InS; rw [List.map_set]; exact hO5, (HKR.out.trans HB9.out.1 (fun _ _ e => e.elim)).trans hk5 (fun _ _ e => e)⟩, ?_⟩
                    show l.length - ((k : Int) + 1).toNat < l.length - ((k : Int)).toNat
                    omega
                  · have HFE := Lib.hid (show foldIn x (some r) = x by rw [HFR.out]; show (if signN (lowI n) = n then _ else _) = _; rw [if_neg hsn])
                    generalize hss : signN (lowI n) = s at *
                    have hne : ((s : Int) == (n : Int)) = false := by
                      have : ¬ (s : Int) = (n : Int) := fun e => hsn (Int.ofNat_inj.1 e)
                      simpa using this
                    clear hsn hss
                    go_wp2_with fail
                    refine ⟨⟨k + 1, by simp, by omega, by rw [HSM.out HFE.out]; exact Sl.kept HB9.out.1 HO.out (fun _ _ e => e), HKR.out.trans HB9.out.1 (fun _ _ e => e.elim)⟩, ?_⟩
                    show l.length - ((k : Int) + 1).toNat < l.length - ((k : Int)).toNat
                    omega
            · have hk11 : (kk == 11) = false := by simpa using k11
              have HNM : Hid (¬ (x.op = 183 ∨ x.op = 180)) := Lib.hid (fun e => k11 (HMX.out.2 e).1)
              go_wp2_with fail
              have HRS := Lib.hid (fun W => rresult_any x r W (HAR.out (HCC.out.2 (by simp))) HRTX.out)
              have HFR := Lib.hid (show foldIn x (some r) = foldR x (resR x r) from by
                rw [HFI.out, if_neg]
                have := HNM.out
                simp
                omega)
              refine wp_region_mix [.l, .w, .w, .w, .l, .k, .w, .w, .w, .w, .w] (by kernel_rfl) (by kernel_rfl) (fun W => Kept (fun _ => False) wr W ∧ Blk W wr.heap.size 75 (inVals x)) ?_
              have HA2 := Lib.hid (show Kept (fun _ => False) wr wb2.drew ∧ Blk wb2.drew wr.heap.size 75 (inVals x) from ⟨HB2.out.1.drew, HB2.out.2⟩)
              clear HB2 q0 q1 q2 q3 q4
              generalize wb2.drew = wa at *
              refine mix_loadB HA2.out rfl _ 75 rfl aggIn HN0.out.1 (inVals x) (by exact HN0.out.2) ⟨wr.heap.size, 0, none⟩ (by first | rfl | simp) (fun w' hb q u hu => by rw [add_n, hb.2.cell, Nat.zero_add]; exact hu) ?_
              try simp only [Act.put, List.setIfInBounds_toArray, List.set_cons_succ, List.set_cons_zero]
              refine mix_w1 ?_; go_big_quiet_step (fail); refine wpQuiet_nil ?_
              refine mix_w1 ?_; go_big_quiet_step (fail); refine wpQuiet_nil ?_
              refine mix_w1 ?_; go_big_quiet_step (fail); refine wpQuiet_nil ?_
              refine mix_loadB HA2.out rfl _ 33 rfl aggArr HJ0.out.1 (rowA r) (by rw [HJ0.out.2.2.1, rowA_sz HL.out]) ⟨kg, k * 44, none⟩ (by first | rfl | simp) (fun w' hb q u hu => by
                  rw [add_n]
                  have hq : q < 44 := by
                    have := (Array.getElem?_eq_some_iff.1 hu).1
                    rw [rowA_sz HL.out] at this
                    exact this
                  have := Sl.cell (Sl.kept hb.1 HR.out (fun _ _ e => e)) (i := k) (c := vrow (some r)) (by rw [List.getElem?_map, HV.out]; rfl) hq
                  rw [this]
                  simpa [vrow, rowA] using hu) ?_
              try simp only [Act.put, List.setIfInBounds_toArray, List.set_cons_succ, List.set_cons_zero]
              refine mix_k (by exact HA2.out) fun Q' hQ' => ?_
              go_wp2_with fail
              refine (HRS.out _).mono ?_
              rintro e wz ⟨rfl, hkb⟩
              have HB9 := Lib.hid (show Kept (fun _ => False) wr wz ∧ Blk wz wr.heap.size 75 (inVals x) from ⟨HA2.out.1.trans hkb (fun _ _ e => e), hkb.blk (fun e => e) HA2.out.2⟩)
              go_wp2_with fail
              refine hQ' _ _ HB9.out ?_
              clear hQ' Q' hkb HA2
              generalize hrr : resR x r = rr at *
              cases rr with
              | none =>
                simp only [Option.getD_none, Option.isSome_none]
                refine mix_w1 ?_; go_big_quiet_step (fail); refine wpQuiet_nil ?_
                refine mix_w1 ?_; go_big_quiet_step (fail); refine wpQuiet_nil ?_
                refine mix_w1 ?_; go_big_quiet_step (fail); refine wpQuiet_nil ?_
                refine mix_w1 ?_; go_big_quiet_step (fail); refine wpQuiet_nil ?_
                refine mix_w1 ?_; go_big_quiet_step (fail); refine wpQuiet_nil ?_
                refine mix_nil ?_
                go_wp2_with fail
                refine ⟨⟨k + 1, by simp, by omega, by rw [HSM.out (by rw [HFR.out]; rfl)]; exact Sl.kept HB9.out.1 HO.out (fun _ _ e => e), HKR.out.trans HB9.out.1 (fun _ _ e => e.elim)⟩, ?_⟩
                show l.length - ((k : Int) + 1).toNat < l.length - ((k : Int)).toNat
                omega
              | some n =>
                simp only [Option.getD_some, Option.isSome_some]
                have HSG := Lib.hid (fun W => rsign_any (lowI n) W (lowI_rng n))
                have hlow := lowI_eq n
                refine mix_w1 ?_; go_big_quiet_step (fail); refine wpQuiet_nil ?_
                refine mix_w1 ?_; go_big_quiet_step (fail); refine wpQuiet_nil ?_
                refine mix_w1 ?_; go_big_quiet_step (fail); refine wpQuiet_nil ?_
                refine mix_w1 ?_; go_big_quiet_step (fail); refine wpQuiet_nil ?_
                refine mix_w1 ?_; go_big_quiet_step (fail); refine wpQuiet_nil ?_
                refine mix_nil ?_
                go_wp2_with fail
                refine (HSG.out _).mono ?_
                rintro e wc ⟨rfl, rfl⟩
                have q1 : wz.cell? ⟨wr.heap.size, 1, none⟩ = some (.int .u8 x.dst) := by rw [HB9.out.2.cell]; rfl
                try rw [hlow]
                by_cases hsn : signN (lowI n) = n
                · have HFE := Lib.hid (show foldIn x (some r) = ⟨183, x.dst, 0, 0, lowI n⟩ by rw [HFR.out]; show (if signN (lowI n) = n then _ else _) = _; rw [if_pos hsn])
                  rw [hsn]
                  clear hlow hsn
                  generalize lowI n = im at *
                  go_wp2_with (refine wpList_storeElem (icells ⟨183, x.dst, 0, 0, im⟩) rfl _ _ 75 rfl HI0.out.1 HI0.out.2.2.1 og l.length ocap k ((prefN (foldL l V) l k).map icells) rfl (by rfl) (by rfl) (icells_len [⟨183, x.dst, 0, 0, im⟩] _ (by simp)).2 (by exact Sl.kept HB9.out.1 HO.out (fun _ _ e => e)) (by rw [List.length_map, prefN_len (foldL_len l V)]; exact hlt) ?_; intro w5 hO5 hk5)
                  refine ⟨⟨k + 1, by simp, by omega, by rw [HST.out, HFE.out]; unfold InS; rw [List.map_set]; exact hO5, (HKR.out.trans HB9.out.1 (fun _ _ e => e.elim)).trans hk5 (fun _ _ e => e)⟩, ?_⟩
                  show l.length - ((k : Int) + 1).toNat < l.length - ((k : Int)).toNat
                  omega
                · have HFE := Lib.hid (show foldIn x (some r) = x by rw [HFR.out]; show (if signN (lowI n) = n then _ else _) = _; rw [if_neg hsn])
                  generalize hss : signN (lowI n) = s at *
                  have hne : ((s : Int) == (n : Int)) = false := by
                    have : ¬ (s : Int) = (n : Int) := fun e => hsn (Int.ofNat_inj.1 e)
                    simpa using this
                  clear hsn hss
                  go_wp2_with fail
                  refine ⟨⟨k + 1, by simp, by omega, by rw [HSM.out HFE.out]; exact Sl.kept HB9.out.1 HO.out (fun _ _ e => e), HKR.out.trans HB9.out.1 (fun _ _ e => e.elim)⟩, ?_⟩
                  show l.length - ((k : Int) + 1).toNat < l.length - ((k : Int)).toNat
                  omega

end Go.Proofs.YtdchmelgaljpfaaGreat

set_option linter.unusedSimpArgs false
set_option linter.unusedVariables false
namespace Go.Proofs.YtdchmelgaljpfaaGreat
open Go.RowKit

/-! ### opt: jumps, names, idle -/
set_option maxHeartbeats 4000000 in
set_option maxRecDepth 100000 in
theorem insns_any (A B : List In) (av bv : Value) (w : World) (hA : Ins w av A) (hB : Ins w bv B) (hlen : A.length ≤ 1000000) :
    Calls Tryz.prog 11 #[av, bv] w fun e w' => ∃ r, e = .returned (.bool r) ∧ (r = true ↔ A = B) ∧ Kept (fun _ => False) w w' := by
  obtain ⟨aA, aC, hav⟩ := hA.any
  obtain ⟨bA, bC, hbv⟩ := hB.any
  subst hav
  subst hbv
  by_cases hl : A.length = B.length
  case neg =>
    have hd : ((A.length : Int) != (B.length : Int)) = true := bne_iff_ne.2 (by omega)
    have HL := Lib.hid hl
    clear hl
    go_enter Tryz.func11, Tryz.ntmps11
    go_wp2_with fail
    go_ret
    exact ⟨false, rfl, ⟨fun h => absurd h (by decide), fun h => absurd (congrArg List.length h) HL.out⟩, Kept.refl _ w⟩
  case pos =>
    have HL := Lib.hid hl
    have hBl : B.length ≤ 1000000 := by omega
    have hd : ((A.length : Int) != (B.length : Int)) = false := bne_eq_false_iff_eq.2 (by omega)
    clear hl
    go_enter Tryz.func11, Tryz.ntmps11
    go_wp2_with fail
    clear hd
    go_loopw [5] (fun iv wr => ∃ i : Nat, iv = .int .i64 i ∧ i ≤ A.length ∧ A.take i = B.take i ∧ Kept (fun _ => False) w wr) (fun iv _ => A.length - (intOf iv).toNat)
    case atStart => exact ⟨0, rfl, by omega, rfl, Kept.refl _ _⟩
    case round =>
      obtain ⟨i, rfl, hi, htk, hK⟩ := hrel
      by_cases hlt : i < A.length
      case neg =>
        obtain rfl : i = A.length := by omega
        have hnd : decide ((A.length : Int) < A.length) = false := decide_eq_false (by omega)
        have HT := Lib.hid htk
        clear htk
        go_wp2_with fail
        go_ret
        refine ⟨true, rfl, ⟨fun _ => ?_, fun _ => rfl⟩, hK⟩
        have := HT.out
        rw [List.take_length, HL.out, List.take_length] at this
        exact this
      case pos =>
        have hltB : i < B.length := by have := HL.out; omega
        obtain ⟨y, hy⟩ : ∃ y, A[i]? = some y := ⟨_, List.getElem?_eq_getElem hlt⟩
        obtain ⟨z, hz⟩ : ∃ z, B[i]? = some z := ⟨_, List.getElem?_eq_getElem hltB⟩
        obtain ⟨ag, ao, rfl, hag, c0, c1, c2, c3, c4⟩ := (hA.kept hK).at_ hy
        obtain ⟨bg, bo, rfl, hbg, d0, d1, d2, d3, d4⟩ := (hB.kept hK).at_ hz
        have HT := Lib.hid htk
        have HY := Lib.hid hy
        have HZ := Lib.hid hz
        clear htk hy hz
        cases hq : eqIn y z
        case false =>
          go_wp2_with fail
          refine wp_region_mix0 [.w, .w, .w, .l, .w, .w, .w, .l, .l] (by kernel_rfl) (by kernel_rfl) ?_
          repeat (first
            | (refine mix_w1 ?_; go_big_quiet_step (fail); refine wpQuiet_nil ?_)
            | (refine mix_l1 rfl ?_; go_big_quiet_step (fail); refine wpQuiet_nil ?_))
          refine mix_binG rfl rfl .neq 75 75 (.tmp 20) (.tmp 24) rfl (.agg (inVals y)) (.agg (inVals z)) (.bool (!eqIn y z)) rfl rfl (fun w' => guardIn_run .neq _ _ y z w') (fun w' => neqIn_run y z w') ?_
          rw [hq]
          refine mix_done ?_
          go_wp2_with fail
          go_ret
          refine ⟨false, rfl, ⟨fun h => absurd h (by decide), fun h => ?_⟩, hK.drew⟩
          exfalso
          have h1 := HY.out
          rw [h, HZ.out] at h1
          rw [← Option.some.inj h1, (eqIn_iff z z).2 rfl] at hq
          cases hq
        case true =>
          have HE := Lib.hid ((eqIn_iff y z).1 hq)
          go_wp2_with fail
          refine wp_region_mix0 [.w, .w, .w, .l, .w, .w, .w, .l, .l] (by kernel_rfl) (by kernel_rfl) ?_
          repeat (first
            | (refine mix_w1 ?_; go_big_quiet_step (fail); refine wpQuiet_nil ?_)
            | (refine mix_l1 rfl ?_; go_big_quiet_step (fail); refine wpQuiet_nil ?_))
          refine mix_binG rfl rfl .neq 75 75 (.tmp 20) (.tmp 24) rfl (.agg (inVals y)) (.agg (inVals z)) (.bool (!eqIn y z)) rfl rfl (fun w' => guardIn_run .neq _ _ y z w') (fun w' => neqIn_run y z w') ?_
          rw [hq]
          refine mix_done ?_
          go_wp2_with fail
          go_roundw
          case rel => exact ⟨i + 1, by go_num, by omega, by rw [List.take_add_one, List.take_add_one, HT.out, HY.out, HZ.out, HE.out], hK.drew⟩
          case measure => simp [intOf]; omega



end Go.Proofs.YtdchmelgaljpfaaGreat

set_option linter.unusedSimpArgs false
set_option linter.unusedVariables false
namespace Go.Proofs.YtdchmelgaljpfaaGreat
open Go.ChangeShapes Go.WideShapes Go.ChangeAt Go.RowKit

/-! ### slots that came in -/
theorem spot_none {w : World} {a : Addr} {v : Value} (h : w.cell? a = some v) : a.spot = none := by
  unfold World.cell? at h
  split at h
  · split at h
    · cases h
    · rename_i hs; simpa using hs
  · cases h

section
open Go.Deep
variable {H : Type} {enc : TypeId × Value → H} {P : Program} {w : World} {base : Nat} {spare : Nat → Bool} {held : Bool}
theorem open_slice_fields {t e : TypeId} {fs : Array Field} {fuel : Nat} {cs : List Value} {x : DataW H × List MemPlace} (ht : P.underlying t = some (.slice e)) (he : P.underlying e = some (.struct fs))
    (hone : oneCellFields P fs = true) (hC : P.cellsOf e = fs.size) (h : DataW.trod enc P w base spare held fuel t cs = some x) :
    (cs = [.slice none 0 0] ∧ x = (.nil, [])) ∨
    ∃ (a : Addr) (len cap m : Nat) (D : Nat → DataW H) (Pl : Nat → List MemPlace), cs = [.slice (some a) len cap] ∧ base ≤ a.block ∧ len ≤ cap ∧ cap ≤ maxLen ∧ m = (if spare a.block then cap else len) ∧
      x = (.slice ((List.range len).map D) ((List.range (m - len)).map fun j => D (len + j)), MemPlace.row a (m * fs.size) ++ (List.range m).flatMap Pl) ∧
      ∀ i, i < m → ∃ (ys : List (DataW H × List MemPlace)) (n : Nat), D i = .agg (ys.map (·.1)) ∧ Pl i = ys.flatMap (·.2) ∧ ys.length = fs.size ∧
        ∀ (j : Nat) (f : Field), fs[j]? = some f → ∃ (v : Value) (y : DataW H × List MemPlace), w.cell? (a.add (i * fs.size + j)) = some v ∧ ys[j]? = some y ∧ DataW.trod enc P w base spare held n f.type [v] = some y := by
  rcases open_slice ht h with h0 | ⟨a, len, cap, m, n, D, Pl, hcs, hb, hl, hm, hmm, hx, hi⟩
  · exact .inl h0
  · refine .inr ⟨a, len, cap, m, D, Pl, hcs, hb, hl, hm, hmm, by rw [hC] at hx; exact hx, fun i him => ?_⟩
    obtain ⟨cs', hc, ht'⟩ := hi i him
    rw [hC] at hc
    obtain ⟨ys, n', hn', hy, hlen, hyl, hf⟩ := DataW.trod_struct he ht'
    obtain ⟨_, hcl, hat⟩ := World.cells?_some hc
    simp only [Prod.mk.injEq] at hy
    refine ⟨ys, n', hy.1, hy.2, hyl, fun j f hj => ?_⟩
    obtain ⟨ho, hk⟩ := hone_of hone j f hj
    have hjl : j < fs.size := (Array.getElem?_eq_some_iff.1 hj).1
    have hcell := hat j hjl
    have hv : cs'[j]? = some (cs'[j]'(by omega)) := List.getElem?_eq_getElem (by omega)
    have h1 := hf j f hj
    rw [ho, hk] at h1
    have hone' : (cs'.drop j).take 1 = [cs'[j]'(by omega)] := by
      rw [List.drop_eq_getElem_cons (by omega)]
      rfl
    rw [hone'] at h1
    have hys : ys[j]? = some (ys[j]'(by omega)) := List.getElem?_eq_getElem (by omega)
    refine ⟨_, _, ?_, hys, h1.trans hys⟩
    rw [← Go.Deep.add_add, hcell, hv]
end
/-- slots that can be read -/
theorem ins_opened {H : Type} {enc : TypeId × Value → H} {W : World} {base : Nat} {spare : Nat → Bool} {held : Bool} {a0 : Option Addr} {len0 cap0 : Nat} {x : DataW H × List MemPlace} {fuel : Nat}
    (hf : DataW.trod enc Tryz.prog W base spare held fuel 22 [.slice a0 len0 cap0] = some x) : ∃ l : List In, l.length = len0 ∧ len0 ≤ maxLen ∧ Ins W (.slice a0 l.length cap0) l ∧ ∀ x ∈ l, InOk x := by
  rcases open_slice_fields Tryz.underlying22 Tryz.underlying75 (by kernel_rfl) (by kernel_rfl) hf with ⟨hcs, _⟩ | ⟨x, l, c, m, D, Pl, hcs, _, hl, hm, hmm, _, hcell⟩
  · simp at hcs
    obtain ⟨rfl, rfl, rfl⟩ := hcs
    exact ⟨[], rfl, Nat.zero_le _, ⟨none, 0, rfl, Nat.le_refl _, fun i x hx => by simp at hx⟩, fun x hx => by cases hx⟩
  · simp at hcs
    obtain ⟨rfl, rfl, rfl⟩ := hcs
    have hm2 : len0 ≤ m := by rw [hmm]; split <;> omega
    have one : ∀ i, ∃ s : In, i < len0 → W.cell? (x.add (i * 5 + 0)) = some (.int .u8 s.op) ∧ W.cell? (x.add (i * 5 + 1)) = some (.int .u8 s.dst) ∧ W.cell? (x.add (i * 5 + 2)) = some (.int .u8 s.src) ∧ W.cell? (x.add (i * 5 + 3)) = some (.int .i16 s.off) ∧ W.cell? (x.add (i * 5 + 4)) = some (.int .i32 s.imm) ∧ InOk s := by
      intro i
      by_cases hi : i < len0
      · obtain ⟨ys, n, _, _, _, hff⟩ := hcell i (by omega)
        obtain ⟨v0, y0, c0, _, t0⟩ := hff 0 _ rfl
        obtain ⟨v1, y1, c1, _, t1⟩ := hff 1 _ rfl
        obtain ⟨v2, y2, c2, _, t2⟩ := hff 2 _ rfl
        obtain ⟨v3, y3, c3, _, t3⟩ := hff 3 _ rfl
        obtain ⟨v4, y4, c4, _, t4⟩ := hff 4 _ rfl
        obtain ⟨n0, e0, _, w0⟩ := DataW.trod_int Tryz.underlying5 t0
        obtain ⟨n1, e1, _, w1⟩ := DataW.trod_int Tryz.underlying5 t1
        obtain ⟨n2, e2, _, w2⟩ := DataW.trod_int Tryz.underlying5 t2
        obtain ⟨n3, e3, _, w3⟩ := DataW.trod_int Tryz.underlying73 t3
        obtain ⟨n4, e4, _, w4⟩ := DataW.trod_int Tryz.underlying21 t4
        simp only [List.cons.injEq, and_true] at e0 e1 e2 e3 e4
        subst e0 e1 e2 e3 e4
        have b0 := Go.bounds_u8 w0
        have b1 := Go.bounds_u8 w1
        have b2 := Go.bounds_u8 w2
        have b3 := Go.bounds_i16 w3
        have b4 := Go.bounds_i32 w4
        exact ⟨⟨n0, n1, n2, n3, n4⟩, fun _ => ⟨c0, c1, c2, c3, c4, ⟨by simp only; omega, by simp only; omega, by simp only; omega, by simp only; omega, by simp only; omega⟩⟩⟩
      · exact ⟨⟨0, 0, 0, 0, 0⟩, fun h => absurd h hi⟩
    obtain ⟨f, hff⟩ := Classical.axiomOfChoice one
    have hmem : ∀ i s, ((List.range len0).map f)[i]? = some s → i < len0 ∧ f i = s := fun i s hs => by
      have hi : i < len0 := by
        have := (List.getElem?_eq_some_iff.1 hs).1
        simpa using this
      exact ⟨hi, by simpa [hi] using hs⟩
    refine ⟨(List.range len0).map f, by simp, by omega, ?_, fun s hs => ?_⟩
    · refine ⟨some x, cap0, by simp, by simpa using hl, fun i s hs => ?_⟩
      obtain ⟨hi, rfl⟩ := hmem i s hs
      obtain ⟨c0, c1, c2, c3, c4, _⟩ := hff i hi
      obtain ⟨g, off, sp⟩ := x
      obtain rfl : sp = none := by
        obtain ⟨z0, _⟩ := hff 0 (by omega)
        have e0 : (⟨g, off, sp⟩ : Addr).add (0 * 5 + 0) = ⟨g, off, sp⟩ := rfl
        rw [e0] at z0
        exact spot_none z0
      have hadd : ∀ j, (⟨g, off, none⟩ : Addr).add (i * 5 + j) = ⟨g, off + i * 5 + j, none⟩ := fun j => by unfold Addr.add; split <;> simp_all [Nat.add_assoc]
      rw [hadd] at c0 c1 c2 c3 c4
      refine ⟨g, off, rfl, World.block_lt_of_cell? W _ c0, fun k u hk => ?_⟩
      have hk5 : k < 5 := by
        have := (Array.getElem?_eq_some_iff.1 hk).1
        simpa using this
      rcases (by omega : k = 0 ∨ k = 1 ∨ k = 2 ∨ k = 3 ∨ k = 4) with rfl | rfl | rfl | rfl | rfl
      · cases hk; exact c0
      · cases hk; exact c1
      · cases hk; exact c2
      · cases hk; exact c3
      · cases hk; exact c4
    · obtain ⟨i, hi⟩ := List.mem_iff_getElem?.1 hs
      obtain ⟨h1, rfl⟩ := hmem i s hi
      exact (hff i h1).2.2.2.2.2

end Go.Proofs.YtdchmelgaljpfaaGreat

set_option linter.unusedSimpArgs false
set_option linter.unusedVariables false
namespace Go.Proofs.YtdchmelgaljpfaaGreat
open Go.RowKit

/-! ### FoldTells -/
set_option maxHeartbeats 8000000 in
set_option maxRecDepth 100000 in
theorem walk_tells (l : List In) (a : Option Addr) (c : Nat) (w : World) (h : Ins w (.slice a l.length c) l) (ho : ∀ x ∈ l, InOk x)
    (hkn : ∀ W, Calls Tryz.prog 6 #[] W fun e w' => e = .returned (.bool true) ∧ Kept (fun _ => False) W w') :
    Calls Tryz.prog 3 #[.slice a l.length c] w fun e w' => e = .returned (.bool true) ∧ Kept (fun _ => False) w w' := by
  by_cases h120 : 120 < l.length
  · have hd : decide ((120 : Int) < (l.length : Int)) = true := decide_eq_true (by omega)
    have HKW := Lib.hid hkn
    clear hkn h ho
    go_enter Tryz.func3, Tryz.ntmps3
    go_wp2_with fail
    refine (HKW.out _).mono ?_
    rintro e w1 ⟨rfl, hk1⟩
    go_wp2_with fail
    go_ret
    exact ⟨rfl, hk1⟩
  · have hok : InsOk l := ⟨by omega, ho⟩
    have hlen := hok.len
    have HKW := Lib.hid hkn
    have HK1 := Lib.hid (fun W hI => fKnown_any l a c W hI hok)
    have HK2 := Lib.hid (fun W hI => rKnown_any l a c W hI hok)
    have HF1 := Lib.hid (fun W hI => fFold_any l a c W hI hok)
    have HF2 := Lib.hid (fun W hI => rFold_any l a c W hI hok)
    have HIN := Lib.hid (fun (W : World) (hk : Kept (fun _ => False) w W) => h.kept hk)
    obtain ⟨j0, hJ0, hJ1, hJ2, hJ3⟩ := info_parts infoA3
    have HJ0 := Lib.hid (And.intro hJ0 (And.intro hJ1 (And.intro hJ2 hJ3)))
    clear h hok hkn hJ0 hJ1 hJ2 hJ3
    generalize checkI l = ce at *
    have hd : decide ((120 : Int) < (l.length : Int)) = false := decide_eq_false (by omega)
    go_enter Tryz.func3, Tryz.ntmps3
    go_wp2_with fail
    refine (HKW.out _).mono ?_
    rintro e w1 ⟨rfl, hk1⟩
    go_wp2_with fail
    refine (HK1.out _ (HIN.out _ hk1)).mono ?_
    rintro e w2 ⟨av, rfl, ha0, ha1, hk2, -⟩
    have hK2 := hk1.trans hk2 (fun _ _ e => e)
    go_wp2_with fail
    refine (HK2.out _ (HIN.out _ hK2)).mono ?_
    rintro e w3 ⟨bv, rfl, hb0, hb1, hk3, -⟩
    have hK3 := hK2.trans hk3 (fun _ _ e => e)
    have HRW : Hid (∃ R : List KR, Sl w3 33 44 av (R.map rowC) ∧ Sl w3 33 44 bv (R.map rowC) ∧ (∀ r ∈ R, r.length = 11) ∧ R.length ≤ 1000000) := Lib.hid (by
      by_cases hz : ce = 0
      · obtain ⟨V, hV, hA⟩ := ha1 hz
        obtain ⟨V', hV', hB⟩ := hb1 hz
        obtain rfl := hV.unique hV'
        refine ⟨V.map (·.getD noneR), ?_, ?_, fun r hr => ?_, by rw [List.length_map, hV.b.len]; exact hlen⟩
        · rw [List.map_map]; exact Sl.kept hk3 hA (fun _ _ e => e)
        · rw [List.map_map]; exact hB
        · obtain ⟨v, hv, rfl⟩ := List.mem_map.1 hr
          obtain ⟨i, hi⟩ := List.getElem?_of_mem hv
          cases v with
          | none => rfl
          | some r => exact (hV.b.num i r hi).1
      · rw [ha0 hz, hb0 hz]
        exact ⟨[], Sl.nil _ _ _, Sl.nil _ _ _, (fun r hr => by cases hr), by simp⟩)
    have HK3 := Lib.hid hK3
    clear ha0 ha1 hb0 hb1 hk1 hk2 hk3 hK2 hK3 HK1 HK2 HKW
    obtain ⟨R, hA, hB, hR, hRl⟩ := HRW.out
    clear HRW
    have HA := Lib.hid hA
    have HB := Lib.hid hB
    have HR := Lib.hid hR
    obtain ⟨aA, aC, rfl⟩ := Sl.any hA
    obtain ⟨bA, bC, rfl⟩ := Sl.any hB
    rw [List.length_map] at *
    clear hA hB hR
    go_wp2_with fail
    go_loopw [7] (fun iv wr => ∃ k : Nat, iv = .int .i64 k ∧ k ≤ R.length ∧ Kept (fun _ => False) w3 wr) (fun iv _ => R.length - (intOf iv).toNat)
    case atStart => exact ⟨0, rfl, Nat.zero_le _, Kept.refl _ _⟩
    case round =>
      obtain ⟨k, rfl, hk, hkr⟩ := hrel
      have HKR := Lib.hid hkr
      clear hkr
      by_cases hlt : k < R.length
      case neg =>
        obtain rfl : k = R.length := by omega
        have HK4 := Lib.hid (HK3.out.trans HKR.out (fun _ _ e => e))
        clear HKR HA HB HR
        go_wp2_with fail
        refine (HF1.out _ (HIN.out _ HK4.out)).mono ?_
        rintro e w5 ⟨mv, rfl, hm0, hm1, hk5, -⟩
        have hK5 := HK4.out.trans hk5 (fun _ _ e => e)
        go_wp2_with fail
        refine (HF2.out _ (HIN.out _ hK5)).mono ?_
        rintro e w6 ⟨nv, rfl, hn0, hn1, hk6, -⟩
        have hK6 := hK5.trans hk6 (fun _ _ e => e)
        have HMN : Hid (∃ L : List In, Ins w6 mv L ∧ Ins w6 nv L ∧ L.length ≤ 1000000) := Lib.hid (by
          by_cases hz : ce = 0
          · obtain ⟨V, hV, hA⟩ := hm1 hz
            obtain ⟨V', hV', hB⟩ := hn1 hz
            obtain rfl := hV.unique hV'
            exact ⟨foldL l V, InS.ins (Sl.kept hk6 hA (fun _ _ e => e)), InS.ins hB, by rw [foldL_len]; exact hlen⟩
          · rw [hm0 hz, hn0 hz]
            exact ⟨[], InS.ins (Sl.nil _ _ _), InS.ins (Sl.nil _ _ _), by simp⟩)
        obtain ⟨L, hL1, hL2, hL3⟩ := HMN.out
        have HIS := Lib.hid (insns_any L L mv nv w6 hL1 hL2 hL3)
        clear HMN hL1 hL2 hL3 hm0 hm1 hn0 hn1 hk5 hk6 hK5
        go_wp2_with fail
        refine HIS.out.mono ?_
        rintro e w7 ⟨b, rfl, hb, hk7⟩
        obtain rfl : b = true := hb.2 (by trivial)
        go_wp2_with fail
        go_ret
        exact ⟨rfl, hK6.trans hk7 (fun _ _ e => e)⟩
      case pos =>
        obtain ⟨r, hr⟩ : ∃ r, R[k]? = some r := ⟨_, List.getElem?_eq_getElem hlt⟩
        have hrl := HR.out r (List.mem_of_getElem? hr)
        obtain ⟨ag, acap, hav, -, -⟩ := Sl.some_ HA.out (by rw [List.length_map]; omega)
        obtain ⟨bg, bcap, hbv, -, -⟩ := Sl.some_ HB.out (by rw [List.length_map]; omega)
        rw [List.length_map] at hav hbv
        cases hav
        cases hbv
        have HCA := Lib.hid (fun (q : Nat) (u : Value) (hu : (rowA r)[q]? = some u) => (show w3.cell? ⟨ag, k * 44 + q, none⟩ = some u from by
          have hq : q < 44 := by
            have := (Array.getElem?_eq_some_iff.1 hu).1
            rw [rowA_sz hrl] at this
            exact this
          have := Sl.cell HA.out (i := k) (c := rowC r) (by rw [List.getElem?_map, hr]; rfl) hq
          rw [this]
          simpa [rowA] using hu))
        have HCB := Lib.hid (fun (q : Nat) (u : Value) (hu : (rowA r)[q]? = some u) => (show w3.cell? ⟨bg, k * 44 + q, none⟩ = some u from by
          have hq : q < 44 := by
            have := (Array.getElem?_eq_some_iff.1 hu).1
            rw [rowA_sz hrl] at this
            exact this
          have := Sl.cell HB.out (i := k) (c := rowC r) (by rw [List.getElem?_map, hr]; rfl) hq
          rw [this]
          simpa [rowA] using hu))
        have hgl := Sl.lt HA.out ag rfl
        have hgl2 := Sl.lt HB.out bg rfl
        clear hr
        go_wp2_with fail
        refine wp_region_mix [.w, .w, .w, .l, .w, .w, .w, .l, .l] (by kernel_rfl) (by kernel_rfl) (fun W => Kept (fun _ => False) w3 W) ?_
        have HKD := Lib.hid (show Kept (fun _ => False) w3 wr.drew from HKR.out.drew)
        refine mix_w1 ?_; go_big_quiet_step (fail); refine wpQuiet_nil ?_
        refine mix_w1 ?_; go_big_quiet_step (fail); refine wpQuiet_nil ?_
        refine mix_w1 ?_; go_big_quiet_step (fail); refine wpQuiet_nil ?_
        refine mix_loadB HKD.out rfl _ 33 rfl aggArr HJ0.out.1 (rowA r) (by rw [HJ0.out.2.2.1, rowA_sz hrl]) ⟨ag, k * 44, none⟩ (by first | rfl | simp) (fun w' hb q u hu => by rw [add_n]; exact (hb.cell (p := ⟨ag, k * 44 + q, none⟩) hgl (fun e => e)).trans (HCA.out q u hu)) ?_
        try simp only [Act.put, List.setIfInBounds_toArray, List.set_cons_succ, List.set_cons_zero]
        refine mix_w1 ?_; go_big_quiet_step (fail); refine wpQuiet_nil ?_
        refine mix_w1 ?_; go_big_quiet_step (fail); refine wpQuiet_nil ?_
        refine mix_w1 ?_; go_big_quiet_step (fail); refine wpQuiet_nil ?_
        refine mix_loadB HKD.out rfl _ 33 rfl aggArr HJ0.out.1 (rowA r) (by rw [HJ0.out.2.2.1, rowA_sz hrl]) ⟨bg, k * 44, none⟩ (by first | rfl | simp) (fun w' hb q u hu => by rw [add_n]; exact (hb.cell (p := ⟨bg, k * 44 + q, none⟩) hgl2 (fun e => e)).trans (HCB.out q u hu)) ?_
        try simp only [Act.put, List.setIfInBounds_toArray, List.set_cons_succ, List.set_cons_zero]
        refine mix_val1 HKD.out rfl (.bool false) (fun w' hw' => by
          have h1 := row_neq 33 Tryz.underlying33 r r hrl hrl w'
          have h2 : (eqGuard .neq 33 (.tmp 44) (.tmp 48) (.agg (rowA r)) (.agg (rowA r))).run Tryz.prog w' = .ok () w' := run_eqGuard_agg w' _ _ _ _ _ _ (by kernel_rfl)
          simp only [decide_true, Bool.not_true] at h1
          simp [execOp, Act.eval, h1, h2, Result.andThen]) ?_
        try simp only [Act.put, List.setIfInBounds_toArray, List.set_cons_succ, List.set_cons_zero]
        refine mix_nil ?_
        go_wp2_with fail
        refine ⟨⟨k + 1, by simp, by omega, HKD.out⟩, ?_⟩
        show R.length - ((k : Int) + 1).toNat < R.length - ((k : Int)).toNat
        omega

end Go.Proofs.YtdchmelgaljpfaaGreat

set_option linter.unusedSimpArgs false
set_option linter.unusedVariables false
namespace Go.Proofs.YtdchmelgaljpfaaGreat
open Go.RowKit

/-! ### the program that 'known' asks of -/
def KF : List In := [⟨183, 1, 0, 0, 2⟩, ⟨7, 1, 0, 0, 3⟩, ⟨191, 0, 1, 0, 0⟩, ⟨149, 0, 0, 0, 0⟩]
theorem KF_ok : InsOk KF := ⟨by decide, fun x hx => by
  simp only [KF, List.mem_cons, List.not_mem_nil, or_false] at hx
  rcases hx with rfl | rfl | rfl | rfl <;> exact ⟨by decide, by decide, by decide, by decide, by decide⟩⟩
theorem KF_check : checkI KF = 0 := by decide +kernel
def UF : List (Option KR) := [some noneR, some (noneR.set 1 (some 2)), some (noneR.set 1 (some 5)), some ((noneR.set 1 (some 5)).set 0 (some 5))]
theorem KF_beh : (flwL KF).beh 0 noneR = noneR.set 1 (some 2) ∧ (flwL KF).beh 1 (noneR.set 1 (some 2)) = noneR.set 1 (some 5) ∧ (flwL KF).beh 2 (noneR.set 1 (some 5)) = (noneR.set 1 (some 5)).set 0 (some 5) := by decide +kernel
theorem KF_next : (flwL KF).next 0 = [1] ∧ (flwL KF).next 1 = [2] ∧ (flwL KF).next 2 = [3] ∧ (flwL KF).next 3 = [] := by decide +kernel
theorem KF_parts : partsL KF = [(0, 4)] := by decide +kernel
theorem KF_first : (flwL KF).first 0 := ⟨⟨(0, 4), by rw [KF_parts]; simp, rfl⟩, .zero⟩
theorem UF_sol : (flwL KF).Sol UF where
  len := rfl
  st i h := by
    obtain ⟨⟨p, hp, e⟩, _⟩ := h
    rw [KF_parts] at hp
    rw [List.mem_singleton.1 hp] at e
    obtain rfl : i = 0 := by
      have e : (0 : Int) = (i : Int) := e
      omega
    rfl
  step i r hi j hj := by
    have hl : i < 4 := (List.getElem?_eq_some_iff.1 hi).1
    obtain ⟨b0, b1, b2⟩ := KF_beh
    obtain ⟨n0, n1, n2, n3⟩ := KF_next
    rcases (by omega : i = 0 ∨ i = 1 ∨ i = 2 ∨ i = 3) with rfl | rfl | rfl | rfl
    · rw [n0] at hj; obtain rfl := List.mem_singleton.1 hj
      cases hi
      exact ⟨_, rfl, by rw [b0]; exact LeR.refl _⟩
    · rw [n1] at hj; obtain rfl := List.mem_singleton.1 hj
      cases hi
      exact ⟨_, rfl, by rw [b1]; exact LeR.refl _⟩
    · rw [n2] at hj; obtain rfl := List.mem_singleton.1 hj
      cases hi
      exact ⟨_, rfl, by rw [b2]; exact LeR.refl _⟩
    · rw [n3] at hj; cases hj
theorem KF_rows {V : List (Option KR)} (h : KIs KF V) : V = UF := by
  obtain ⟨b0, b1, b2⟩ := KF_beh
  obtain ⟨n0, n1, n2, n3⟩ := KF_next
  have hl : V.length = 4 := h.b.len
  have v0 : V[0]? = some (some noneR) := h.sol.st 0 KF_first
  have key : ∀ (i : Nat) (r u : KR), V[i]? = some (some r) → (i + 1) ∈ (flwL KF).next i → (flwL KF).beh i r = u → UF[i + 1]? = some (some u) → V[i + 1]? = some (some u) := fun i r u hi hn hb hu => by
    obtain ⟨v, hv, hle⟩ := h.sol.step i r hi (i + 1) hn
    have h2 := h.b.top.top UF UF_sol (i + 1) _ _ hu hv
    rw [hb] at hle
    rw [hv, LeO.antisymm hle h2]
  have v1 := key 0 _ _ v0 (by rw [n0]; simp) b0 rfl
  have v2 := key 1 _ _ v1 (by rw [n1]; simp) b1 rfl
  have v3 := key 2 _ _ v2 (by rw [n2]; simp) b2 rfl
  apply List.ext_getElem?
  intro i
  by_cases hi : i < 4
  · rcases (by omega : i = 0 ∨ i = 1 ∨ i = 2 ∨ i = 3) with rfl | rfl | rfl | rfl
    · exact v0
    · exact v1
    · exact v2
    · exact v3
  · rw [List.getElem?_eq_none (by omega), List.getElem?_eq_none (by show 4 ≤ i; omega)]
theorem KF_fold {V : List (Option KR)} (h : KIs KF V) : foldL KF V = [⟨183, 1, 0, 0, 2⟩, ⟨183, 1, 0, 0, 5⟩, ⟨183, 0, 0, 0, 5⟩, ⟨149, 0, 0, 0, 0⟩] := by
  rw [KF_rows h]
  decide +kernel

end Go.Proofs.YtdchmelgaljpfaaGreat


import Derived.Test.YtdchmelgaljpfaaGreatFh
set_option linter.unusedSimpArgs false
set_option linter.unusedVariables false
namespace Go.Proofs.YtdchmelgaljpfaaGreat
open Go.RowKit

/-! ### FoldStraight: the walk -/
theorem movF_ins (f : List Int) {k : Nat} (hk : k < 4) : (List.range (k + 1)).map (movF f) = (List.range k).map (movF f) ++ [movF f k] := by rw [List.range_succ, List.map_append]; rfl
set_option maxHeartbeats 8000000 in
set_option maxRecDepth 1000000 in
theorem walk_fstraight (f0 f1 f2 f3 : Int) (l : List In) (a : Option Addr) (c : Nat) (w : World) (hf : ∀ v ∈ [f0, f1, f2, f3], -2147483648 ≤ v ∧ v ≤ 2147483647) (h : Ins w (.slice a l.length c) l) (hox : ∀ x ∈ l, InOk x)
    (hkn : ∀ W, Calls Tryz.prog 6 #[] W fun e w' => e = .returned (.bool true) ∧ Kept (fun _ => False) W w') :
    Calls Tryz.prog 5 #[.agg #[.int .i32 f0, .int .i32 f1, .int .i32 f2, .int .i32 f3], .slice a l.length c] w fun e w' => e = .returned (.bool true) ∧ Kept (fun _ => False) w w' := by
  have HKW := Lib.hid hkn
  by_cases h60 : 60 < l.length
  · have hd : decide ((60 : Int) < l.length) = true := decide_eq_true (by omega)
    clear h60 h hox hkn hf
    go_enter Tryz.func5, Tryz.ntmps5
    go_wp2_with fail
    refine (HKW.out _).mono ?_
    rintro e w1 ⟨rfl, hk1⟩
    go_wp2_with fail
    go_ret
    exact ⟨rfl, ((Kept.refl _ w).alloc _).trans hk1 (fun _ _ e => e)⟩
  · have hd : decide ((60 : Int) < l.length) = false := decide_eq_false (by omega)
    have HL60 : Hid (l.length ≤ 60) := Lib.hid (by omega)
    have hl60 : l.length ≤ 60 := by omega
    have HIN := Lib.hid (fun (W : World) (hk : Kept (fun _ => False) w W) => h.kept hk)
    obtain ⟨i0, hI0, hI1, hI2, hI3⟩ := info_parts infoIn
    have HI0 := Lib.hid (And.intro hI0 (And.intro hI1 (And.intro hI2 hI3)))
    obtain ⟨j0, hJ0, hJ1, hJ2, hJ3⟩ := info_parts infoU4
    have HJ0 := Lib.hid (And.intro hJ0 (And.intro hJ1 (And.intro hJ2 hJ3)))
    obtain ⟨b0, hB0, hB1, hB2, hB3⟩ := info_parts infoU8
    have HB1 := Lib.hid (And.intro hB0 (And.intro hB1 (And.intro hB2 hB3)))
    clear h60 h hkn hI0 hI1 hI2 hI3 hJ0 hJ1 hJ2 hJ3 hB0 hB1 hB2 hB3
    go_enter Tryz.func5, Tryz.ntmps5
    go_wp2_with fail
    refine (HKW.out _).mono ?_
    rintro e w1 ⟨rfl, hk1⟩
    go_wp2_with fail
    have hbF : Blk (w1.alloc (.cells (uA [0, 0, 0, 0]) 72)) w.heap.size 71 #[.int .i32 f0, .int .i32 f1, .int .i32 f2, .int .i32 f3] := (hk1.blk (fun e => e) (Blk.new w _ _)).alloc _
    have hbU : Blk (w1.alloc (.cells (uA [0, 0, 0, 0]) 72)) w1.heap.size 72 (uA [0, 0, 0, 0]) := Blk.new w1 _ _
    have hkU : Kept (fun _ => False) w (w1.alloc (.cells (uA [0, 0, 0, 0]) 72)) := (((Kept.refl _ w).alloc _).trans hk1 (fun _ _ e => e)).alloc _
    have hlw : w.heap.size < w1.heap.size := by have := hk1.size; simp at this; omega
    have HB0 := Lib.hid (And.intro hbF (And.intro hbU hkU))
    clear hbF hbU hkU hk1
    generalize hgF : w.heap.size = gF at *
    generalize hgU : w1.heap.size = gU at *
    go_loopw [5, 7] (fun pv iv wr => ∃ i : Nat, iv = .int .i64 i ∧ i ≤ 4 ∧ InS wr pv ((List.range i).map (movF [f0, f1, f2, f3])) ∧ (∀ g, pv.ownBlock = some g → gU < g) ∧ Blk wr gF 71 #[.int .i32 f0, .int .i32 f1, .int .i32 f2, .int .i32 f3] ∧ Blk wr gU 72 (uA (uP [f0, f1, f2, f3] i)) ∧ Kept (fun _ => False) w wr) (fun _ iv _ => 4 - (intOf iv).toNat)
    case atStart => exact ⟨0, rfl, by omega, Sl.nil _ _ _, fun g hg => by simp [Value.ownBlock] at hg, HB0.out.1, HB0.out.2.1, HB0.out.2.2⟩
    case round =>
      clear HB0
      obtain ⟨i, rfl, hi, hP, hown, hbF, hbU, hK⟩ := hrel
      have HP := Lib.hid hP
      have HOW := Lib.hid hown
      have HBF := Lib.hid hbF
      have HBU := Lib.hid hbU
      have HK := Lib.hid hK
      clear hP hown hbF hbU hK
      by_cases hlt : i < 4
      case neg =>
        obtain rfl : i = 4 := by omega
        have e4 : ((4 : Nat) : Int) = 4 := rfl
        rw [e4]
        clear e4
        have hR4 : uP [f0, f1, f2, f3] 4 = regsN [f0, f1, f2, f3] [] 0 := rfl
        rw [hR4] at HBU
        have HOX := Lib.hid hox
        have HFB := Lib.hid hf
        have hgFl := HBF.out.lt
        have hgUl := HBU.out.lt
        clear hR4 hf hox
        go_wp2_with fail
        have HGU := Lib.hid (show w.heap.size ≤ gU from by omega)
        have H0 := Lib.hid (show InS wr u5 ((List.range 4).map (movF [f0, f1, f2, f3]) ++ (((l.take 0).filter sOk).map sIn)) from by simpa using HP.out)
        have HW0 := Lib.hid (show Sl wr 72 4 (.slice none 0 0) (wantR [f0, f1, f2, f3] ((l.take 0).filter sOk)) from Sl.nil _ _ _)
        have HT0 := Lib.hid (show Sl wr 5 1 (.slice none 0 0) (((l.take 0).filter sOk).map fun x => [Value.int .u8 (x.dst % 4)]) from Sl.nil _ _ _)
        go_loopw [5, 8, 9, 10] (fun pv wv tv iv wr => ∃ j : Nat, iv = .int .i64 j ∧ j ≤ l.length ∧ InS wr pv ((List.range 4).map (movF [f0, f1, f2, f3]) ++ ((l.take j).filter sOk).map sIn) ∧ Sl wr 72 4 wv (wantR [f0, f1, f2, f3] ((l.take j).filter sOk)) ∧ Sl wr 5 1 tv (((l.take j).filter sOk).map fun x => [Value.int .u8 (x.dst % 4)]) ∧
          Blk wr gU 72 (uA (regsN [f0, f1, f2, f3] ((l.take j).filter sOk) ((l.take j).filter sOk).length)) ∧ (∀ g, (pv.ownBlock = some g ∨ wv.ownBlock = some g ∨ tv.ownBlock = some g) → gU < g) ∧ (∀ g, pv.ownBlock = some g → wv.ownBlock ≠ some g ∧ tv.ownBlock ≠ some g) ∧ (∀ g, wv.ownBlock = some g → tv.ownBlock ≠ some g) ∧ Kept (fun _ => False) w wr) (fun _ _ _ iv _ => l.length - (intOf iv).toNat)
        case atStart => exact ⟨0, rfl, Nat.zero_le _, H0.out, HW0.out, HT0.out, by simpa using HBU.out, fun g hg => by (rcases hg with hg | hg | hg); exact HOW.out g hg; simp [Value.ownBlock] at hg; simp [Value.ownBlock] at hg, fun g hg => ⟨by simp [Value.ownBlock], by simp [Value.ownBlock]⟩, fun g hg => by simp [Value.ownBlock], HK.out⟩
        case round =>
          clear HP HOW HBF HBU HK H0 HW0 HT0 hgFl hgUl
          obtain ⟨j, rfl, hj, hP, hW, hT, hU, ho1, ho2, ho3, hK⟩ := hrel
          have HMO := Lib.hid (fun (x : In) (hx : l[j]? = some x) (hs : sOk x = true) => filtS_more hx hs)
          have HSA := Lib.hid (fun (x : In) (hx : l[j]? = some x) (hs : sOk x = false) => filtS_same hx hs)
          have HEND := Lib.hid (fun (e : j = l.length) => show (l.take j).filter sOk = l.filter sOk by rw [e, List.take_length])
          generalize hops : (l.take j).filter sOk = ops at *
          have hol : ops.length ≤ 60 := by rw [← hops]; exact Nat.le_trans (List.length_filter_le _ _) (by rw [List.length_take]; omega)
          clear hops
          obtain ⟨r, hr⟩ : ∃ r, regsN [f0, f1, f2, f3] ops ops.length = r := ⟨_, rfl⟩
          have hrl : r.length = 4 := by rw [← hr]; exact regsN_len rfl _ _
          have HRLT := Lib.hid (show ∀ v ∈ r, v < 18446744073709551616 from by rw [← hr]; exact regs_lt _ _ _)
          rw [hr] at hU
          obtain ⟨r0, r1, r2, r3, rfl⟩ : ∃ r0 r1 r2 r3, r = [r0, r1, r2, r3] := by
            match r, hrl with
            | [a, b, c, d], _ => exact ⟨a, b, c, d, rfl⟩
          have HR := Lib.hid hr
          have HSX0 := Lib.hid (show ∀ xs, StX w (wr.alloc (.cells xs 75)) gU wr.heap.size u5 u8 u9 ((List.range 4).map (movF [f0, f1, f2, f3]) ++ ops.map sIn) (wantR [f0, f1, f2, f3] ops) (ops.map fun x => [Value.int .u8 (x.dst % 4)]) [r0, r1, r2, r3] xs from fun xs =>
            ⟨Sl.alloc hP _, Sl.alloc hW _, Sl.alloc hT _, hU.alloc _, Blk.new wr _ _, hU.lt, fun g hg => ⟨ho1 g hg, by
              rcases hg with hg | hg | hg
              · have := Sl.lt hP g hg; omega
              · have := Sl.lt hW g hg; omega
              · have := Sl.lt hT g hg; omega⟩, ho2, ho3, hK.alloc _⟩)
          have HO := Lib.hid (And.intro ho1 (And.intro ho2 ho3))
          have HP := Lib.hid hP
          have HW := Lib.hid hW
          have HT := Lib.hid hT
          have HU := Lib.hid hU
          have HK := Lib.hid hK
          have HOG := Lib.hid (And.intro (show ∀ g, u8.ownBlock = some g → w.heap.size ≤ g from fun g hg => by have := ho1 g (.inr (.inl hg)); omega) (And.intro (show ∀ g, u9.ownBlock = some g → w.heap.size ≤ g from fun g hg => by have := ho1 g (.inr (.inr hg)); omega) (show ∀ g, u5.ownBlock = some g → w.heap.size ≤ g from fun g hg => by have := ho1 g (.inl hg); omega)))
          clear hP hW hT hU ho1 ho2 ho3 hK hr hrl
          by_cases hlj : j < l.length
          case neg =>
            have hje : j = l.length := by omega
            have HOE := Lib.hid (HEND.out hje)
            subst hje
            clear HEND HMO HSA HIN hlj hj
            have hz0 := HU.out.lt
            have u0 : wr.cell? ⟨gU, 0, none⟩ = some (.int .u64 (r0 : Nat)) := HU.out.cell 0
            have u1 : wr.cell? ⟨gU, 1, none⟩ = some (.int .u64 (r1 : Nat)) := HU.out.cell 1
            have u2 : wr.cell? ⟨gU, 2, none⟩ = some (.int .u64 (r2 : Nat)) := HU.out.cell 2
            have u3 : wr.cell? ⟨gU, 3, none⟩ = some (.int .u64 (r3 : Nat)) := HU.out.cell 3
            have HSX1 := Lib.hid (HSX0.out #[.int .u8 149, .int .u8 0, .int .u8 0, .int .i16 0, .int .i32 0])
            clear HSX0
            go_upto_region 32 with (at_builtin; refine wpList_appendS rfl _ _ 22 rfl Tryz.underlying22 HI0.out.1 HI0.out.2.1 HI0.out.2.2.1 HI0.out.2.2.2 rfl u5 (.slice (some ⟨wr.heap.size, 0, none⟩) 1 1) ((List.range 4).map (movF [f0, f1, f2, f3]) ++ ops.map sIn) [⟨149, 0, 0, 0, 0⟩] rfl rfl (Sl.alloc HP.out _) (InS.ins (inS_one2 wr ⟨149, 0, 0, 0, 0⟩ rfl)) (by simp) (by simp; omega) ?_; intro v2 w2 hS2 hk2 hv2)
            have hX2 := HSX1.out.pushP HOG.out.2.2 hS2 hk2 hv2
            have HX2 := Lib.hid hX2
            have t0 : w2.cell? ⟨gU, 0, none⟩ = some (.int .u64 (r0 : Nat)) := hX2.hu.cell 0
            have t1 : w2.cell? ⟨gU, 1, none⟩ = some (.int .u64 (r1 : Nat)) := hX2.hu.cell 1
            have t2 : w2.cell? ⟨gU, 2, none⟩ = some (.int .u64 (r2 : Nat)) := hX2.hu.cell 2
            have t3 : w2.cell? ⟨gU, 3, none⟩ = some (.int .u64 (r3 : Nat)) := hX2.hu.cell 3
            clear hX2 hS2 hk2 hv2 u0 u1 u2 u3 hz0
            go_upto_region 33 with (at_builtin; refine wpList_push (w := w2) rfl _ _ 76 rfl Tryz.underlying76 HJ0.out.1 HJ0.out.2.1 HJ0.out.2.2.1 HJ0.out.2.2.2 rfl (by omega) u8 (wantR [f0, f1, f2, f3] ops) (ucells [r0, r1, r2, r3]) rfl rfl HX2.out.hw rfl (ucells_one _) (by rw [wantR_len]; omega) (by omega) ?_; intro g3 cap3 w3 hS3 hk3 ho3; have HX3 := Lib.hid (HX2.out.pushW HOG.out.1 hS3 hk3 (fun g hg => by cases hg; exact ho3)); clear hS3 hk3 ho3)
            have hP3 := HX3.out.hp
            have hW3 := HX3.out.hw
            have hT3 := HX3.out.ht
            have HK3 := Lib.hid HX3.out.hk
            have hlen3 : ((List.range 4).map (movF [f0, f1, f2, f3]) ++ ops.map sIn ++ [(⟨149, 0, 0, 0, 0⟩ : In)]).length = (stP [f0, f1, f2, f3] l).length := by rw [HOE.out, stP_ops]
            rw [← HR.out, wantA_eq, wantR_len] at hW3
            rw [HOE.out, stP_ops] at hP3
            rw [wantR_len]
            have hpl : (stP [f0, f1, f2, f3] l).length = ops.length + 5 := by rw [stP_len, ← HOE.out]; omega
            have HOK3 := Lib.hid (stP_ok (f := [f0, f1, f2, f3]) rfl HFB.out hl60 HOX.out)
            have HCK3 := Lib.hid (stP_plain (f := [f0, f1, f2, f3]) (l := l) hl60).check
            have HST := Lib.hid (fun (V : List (Option KR)) (h : KIs (stP [f0, f1, f2, f3] l) V) (j : Nat) (hj : j ≤ ops.length) => st_row (f := [f0, f1, f2, f3]) rfl hl60 h (j := j) (by rw [← HOE.out]; exact hj))
            have HSF := Lib.hid (fun (V : List (Option KR)) (h : KIs (stP [f0, f1, f2, f3] l) V) (j : Nat) (x : In) (hx : ops[j]? = some x) => st_fold (f := [f0, f1, f2, f3]) rfl hl60 h (j := j) (x := x) (by rw [← HOE.out]; exact hx))
            have HSO := Lib.hid (fun (j : Nat) (x : In) (hx : ops[j]? = some x) => stP_op [f0, f1, f2, f3] l (i := j) (x := x) (by rw [← HOE.out]; exact hx))
            rw [← HOE.out] at HST HSF
            generalize hpe : stP [f0, f1, f2, f3] l = pl at *
            clear hpe hlen3 HX3 HX2 t0 t1 t2 t3
            obtain ⟨A, cp, rfl⟩ := Sl.any hP3
            rw [List.length_map] at hP3
            rw [List.length_map]
            have HPL := Lib.hid hpl
            have HI3 := Lib.hid (InS.ins hP3)
            have HW3 := Lib.hid hW3
            have HT3 := Lib.hid hT3
            have hol1 : ops.length + 1 ≤ 61 := by omega
            clear hP3 hW3 hT3 hpl HP HW HT HU HO HOG HSX1 HK HR
            go_wp2_with fail
            refine (fKnown_any pl A cp w3 HI3.out HOK3.out).mono ?_
            rintro e w4 ⟨ov, rfl, -, hV, hk4, -⟩
            rw [HCK3.out]
            obtain ⟨V, hVI, hVS⟩ := hV HCK3.out
            clear hV
            obtain ⟨kg, kc, rfl, -, -⟩ := Sl.some_ hVS (by rw [List.length_map, hVI.b.len, HPL.out]; omega)
            rw [List.length_map, hVI.b.len] at hVS
            rw [List.length_map, hVI.b.len]
            have HVI := Lib.hid hVI
            have HVS := Lib.hid hVS
            have HK4 := Lib.hid hk4
            clear hVI hVS hk4
            go_wp2_with fail
            refine (fFold_any pl A cp w4 (HI3.out.kept HK4.out) HOK3.out).mono ?_
            rintro e w5 ⟨fv, rfl, -, hF, hk5, -⟩
            rw [HCK3.out]
            obtain ⟨V2, hV2, hFS⟩ := hF HCK3.out
            obtain rfl := KIs.unique hV2 HVI.out
            clear hF hV2
            obtain ⟨FA, fc, rfl⟩ := Sl.any hFS
            rw [List.length_map, foldL_len] at hFS
            rw [List.length_map, foldL_len]
            have HF5 := Lib.hid (InS.ins hFS)
            have HV5 := Lib.hid (Sl.kept hk5 HVS.out (fun _ _ e => e))
            have HW5 := Lib.hid (Sl.kept hk5 (Sl.kept HK4.out HW3.out (fun _ _ e => e)) (fun _ _ e => e))
            have hT5 := Sl.kept hk5 (Sl.kept HK4.out HT3.out (fun _ _ e => e)) (fun _ _ e => e)
            obtain ⟨TA, tc, rfl⟩ := Sl.any hT5
            rw [List.length_map] at hT5
            rw [List.length_map]
            have HT5 := Lib.hid hT5
            clear hT5
            have HP5 := Lib.hid ((HI3.out.kept HK4.out).kept hk5)
            have HK5 := Lib.hid ((HK3.out.trans HK4.out (fun _ _ e => e)).trans hk5 (fun _ _ e => e))
            clear hFS hk5 HVS HW3 HT3 HI3 HK4 HK3
            go_upto_region 37 with fail
            clear HFB HOX HKW HJ0 HB1 HI0 HGU HRLT HOK3 HCK3 hol
            go_wp2_with fail
            refine fs_loop f0 f1 f2 f3 ops pl V2 A cp g3 cap3 TA tc kg kc FA fc w5 HST HSF HSO HPL hol1 HVI HF5 HV5 HW5 HT5 HP5 _ _ _ _ _ _ _ _ _ _ _ _ _ _ _ _ _ _ _ _ _ _ _ _ _ _ _ _ _ _ _ _ _ _ _ _ _ _ _ _ _ _ _ _ _ _ _ _ _ _ _ _ _ _ _ _ _ _ _ _ _ _ _ _ _ _ _ _ _ _ _ _ _ _ _ _ _ _ _ _ _ _ _ _ _ _ _ _ _ _ _ _ _ _ _ _ _ _ _ _ _ _ _ _ _ _ _ _ _ _ _ _ _ _ _ _ _ _ _ _ _ _ _ _ _ _ _ _ _ _ _ _ _ _ _ _ _ _ _ _ _ _ _ _ _ _ _ _ _ _ _ _ _ _ _ _ _ _ _ _ _ _ _ _ _ _ _ _ _ _ _ _ _ _ _ _ _ _ _ _ _ _ _ _ _ _ _ _ _ _ _ _ _ _ _ _ _ _ _ _ _ _ _ _ _ _ _ _ _ _ _ _ _ _ _ _ _ _ _ _ _ _ _ _ _ _ _ _ _ _ _ _ _ _ _ _ _ _ _ _ _ _ _ _ _ _ _ _ _ _ _ _ _ _ _ _ _ _ _ _ _ _ _ _ _ _ _ _ _ _ _ _ _ _ _ _ ?_
            refine Lib.hid ?_
            intro _ _ _ _ _ _ _ _ _ _ _ _ _ _ _ _ _ _ _ _ _ _ _ _ _ _ _ _ _ _ _ _ _ _ _ _ _ _ _ _ _ _ _ _ _ _ _ _ _ _ _ _ _ _ _ _ _ _ _ _ _ _ _ _ _ _ _ _ _ _ _ _ _ _ _ _ _ _ _ _ _ _ _ _ _ _ _ _ _ _ _ _ _ _ _ _ _ _ _ _ _ _ _ _ _ _ _ _ _ _ _ _ wr6 hk6
            go_wp2_with fail
            go_ret
            exact ⟨rfl, HK5.out.trans hk6 (fun _ _ e => e)⟩
          case pos =>
            obtain ⟨x, hx⟩ : ∃ x, l[j]? = some x := ⟨_, List.getElem?_eq_getElem hlj⟩
            have hxo := HOX.out x (List.mem_of_getElem? hx)
            have hop := hxo.op
            have hds := hxo.dst
            have hsr := hxo.src
            have him := hxo.imm
            obtain ⟨lg, lo, hla, hlg, c0, c1, c2, c3, c4⟩ := (HIN.out _ HK.out).at_ hx
            subst hla
            have HMO := Lib.hid (HMO.out x hx)
            have HSA := Lib.hid (HSA.out x hx)
            have hsok : sOk x = ((decide (x.op % 8 = 4) || decide (x.op % 8 = 7)) && (decide (x.op / 16 ≤ 12) && decide (x.op / 16 ≠ 8))) := rfl
            have hxx := HOX.out x (List.mem_of_getElem? hx)
            clear hx
            have hj1 : j + 1 ≤ l.length := hlj
            by_cases c47 : x.op % 8 = 4 ∨ x.op % 8 = 7
            case neg =>
              have q4 : ¬ x.op % 8 = 4 := fun e => c47 (.inl e)
              have q7 : ¬ x.op % 8 = 7 := fun e => c47 (.inr e)
              have HSF := Lib.hid (HSA.out (by rw [hsok]; simp [q4, q7]))
              clear hsok c47
              go_wp2_with fail
              refine ⟨⟨j + 1, by simp, hj1, ?_, ?_, ?_, ?_, HO.out.1, HO.out.2.1, HO.out.2.2, HK.out.alloc _⟩, ?_⟩
              · rw [HSF.out]; exact Sl.alloc HP.out _
              · rw [HSF.out]; exact Sl.alloc HW.out _
              · rw [HSF.out]; exact Sl.alloc HT.out _
              · rw [HSF.out, HR.out]; exact HU.out.alloc _
              · show l.length - ((j : Int) + 1).toNat < l.length - ((j : Int)).toNat
                omega
            case pos =>
              have HC := Lib.hid c47
              by_cases cb : 12 < x.op / 16 ∨ x.op / 16 = 8
              case pos =>
                have HSF := Lib.hid (HSA.out (by rw [hsok]; rcases cb with cb | cb <;> simp [cb] <;> omega))
                clear hsok
                rcases cb with cb | cb
                all_goals
                  rcases c47 with c47 | c47
                  all_goals
                    go_wp2_with fail
                    refine ⟨⟨j + 1, by simp, hj1, ?_, ?_, ?_, ?_, HO.out.1, HO.out.2.1, HO.out.2.2, HK.out.alloc _⟩, ?_⟩
                    · rw [HSF.out]; exact Sl.alloc HP.out _
                    · rw [HSF.out]; exact Sl.alloc HW.out _
                    · rw [HSF.out]; exact Sl.alloc HT.out _
                    · rw [HSF.out, HR.out]; exact HU.out.alloc _
                    · show l.length - ((j : Int) + 1).toNat < l.length - ((j : Int)).toNat
                      omega
              case neg =>
                have n12 : ¬ 12 < x.op / 16 := fun e => cb (.inl e)
                have n8 : ¬ x.op / 16 = 8 := fun e => cb (.inr e)
                have HSM := Lib.hid (HMO.out (by rw [hsok]; rcases c47 with c47 | c47 <;> (simp [c47, n8]; omega)))
                clear hsok cb
                have hz0 := HU.out.lt
                obtain ⟨vs, hvs⟩ : ∃ v, [r0, r1, r2, r3][(x.src % 4).toNat]? = some v := ⟨_, List.getElem?_eq_getElem (by simp; omega)⟩
                obtain ⟨vd, hvd⟩ : ∃ v, [r0, r1, r2, r3][(x.dst % 4).toNat]? = some v := ⟨_, List.getElem?_eq_getElem (by simp; omega)⟩
                have hcs : wr.cell? ⟨gU, (x.src % 4).toNat, none⟩ = some (.int .u64 (vs : Nat)) := by rw [HU.out.cell]; exact uA_at hvs
                have HVS := Lib.hid hvs
                have HVD := Lib.hid hvd
                clear hvs hvd
                rcases c47 with c47 | c47 <;> rcases Decidable.em (x.op / 8 % 2 = 1) with hb | hb
                case' inl.inl | inr.inl =>
                  go_upto_region 26 with fail
                  have HSI := Lib.hid (show sIn x = ⟨x.op, x.dst % 4, x.src % 4, 0, 0⟩ from sIn_reg hb)
                  have HBV := Lib.hid (show sVal x [r0, r1, r2, r3] = doN (x.op / 16).toNat (decide (x.op % 8 = 7)) vd vs from sVal_reg hb HVD.out HVS.out)
                  have hbl : vs < 18446744073709551616 := HRLT.out vs (List.mem_of_getElem? HVS.out)
                  have key : ∃ (S I : Int) (w1 : World) (gX : Nat), w1 = wr.alloc (.cells #[.int .u8 x.op, .int .u8 (x.dst % 4), .int .u8 (x.src % 4), .int .i16 0, .int .i32 0] 75) ∧ gX = wr.heap.size ∧ sIn x = ⟨x.op, x.dst % 4, S, 0, I⟩ ∧ StX w w1 gU gX u5 u8 u9 ((List.range 4).map (movF [f0, f1, f2, f3]) ++ ops.map sIn) (wantR [f0, f1, f2, f3] ops) (ops.map fun x => [Value.int .u8 (x.dst % 4)]) [r0, r1, r2, r3] #[.int .u8 x.op, .int .u8 (x.dst % 4), .int .u8 S, .int .i16 0, .int .i32 I] := ⟨_, _, _, _, rfl, rfl, HSI.out, HSX0.out _⟩
                  clear HVS hcs
                  generalize vs = bv at *
                case' inl.inr | inr.inr =>
                  go_upto_region 26 with fail
                  have HSI := Lib.hid (show sIn x = ⟨x.op, x.dst % 4, 0, 0, x.imm⟩ from sIn_imm hb)
                  have HBV := Lib.hid (show sVal x [r0, r1, r2, r3] = doN (x.op / 16).toNat (decide (x.op % 8 = 7)) vd (signN x.imm) from sVal_imm hb HVD.out)
                  have hbl : signN x.imm < 18446744073709551616 := signN_lt _
                  rw [wrap_sign]
                  have key : ∃ (S I : Int) (w1 : World) (gX : Nat), w1 = wr.alloc (.cells #[.int .u8 x.op, .int .u8 (x.dst % 4), .int .u8 (0), .int .i16 0, .int .i32 x.imm] 75) ∧ gX = wr.heap.size ∧ sIn x = ⟨x.op, x.dst % 4, S, 0, I⟩ ∧ StX w w1 gU gX u5 u8 u9 ((List.range 4).map (movF [f0, f1, f2, f3]) ++ ops.map sIn) (wantR [f0, f1, f2, f3] ops) (ops.map fun x => [Value.int .u8 (x.dst % 4)]) [r0, r1, r2, r3] #[.int .u8 x.op, .int .u8 (x.dst % 4), .int .u8 S, .int .i16 0, .int .i32 I] := ⟨_, _, _, _, rfl, rfl, HSI.out, HSX0.out _⟩
                  clear HVS hcs
                  generalize signN x.imm = bv at *
                all_goals
                  obtain ⟨S, I, w1, gX, hw1, hgX, hSI, hX1⟩ := key
                  rw [← hw1, ← hgX]
                  have HSI := Lib.hid hSI
                  have HW1 := Lib.hid hw1
                  have HGX := Lib.hid hgX
                  have HX1 := Lib.hid hX1
                  have u0 : w1.cell? ⟨gU, 0, none⟩ = some (.int .u64 (r0 : Nat)) := hX1.hu.cell 0
                  have u1 : w1.cell? ⟨gU, 1, none⟩ = some (.int .u64 (r1 : Nat)) := hX1.hu.cell 1
                  have u2 : w1.cell? ⟨gU, 2, none⟩ = some (.int .u64 (r2 : Nat)) := hX1.hu.cell 2
                  have u3 : w1.cell? ⟨gU, 3, none⟩ = some (.int .u64 (r3 : Nat)) := hX1.hu.cell 3
                  have x1 : w1.cell? ⟨gX, 1, none⟩ = some (.int .u8 (x.dst % 4)) := hX1.hx.cell 1
                  clear hSI hw1 hgX hX1 hz0
                  go_upto_region 28 with (at_builtin; first
                    | (refine wpList_push (w := w1) rfl _ _ 76 rfl Tryz.underlying76 HJ0.out.1 HJ0.out.2.1 HJ0.out.2.2.1 HJ0.out.2.2.2 rfl (by omega) u8 (wantR [f0, f1, f2, f3] ops) (ucells [r0, r1, r2, r3]) rfl rfl HX1.out.hw rfl (ucells_one _) (by rw [wantR_len]; omega) (by omega) ?_; intro g6 cap6 w6 hS6 hk6 ho6; have hX6 := HX1.out.pushW HOG.out.1 hS6 hk6 (fun g hg => by cases hg; exact ho6); have HX6 := Lib.hid hX6; have x1 : w6.cell? ⟨gX, 1, none⟩ = some (.int .u8 (x.dst % 4)) := hX6.hx.cell 1; clear hX6 hS6 hk6 ho6)
                    | (refine wpList_push (w := w6) rfl _ _ 45 rfl Tryz.underlying45 HB1.out.1 HB1.out.2.1 HB1.out.2.2.1 HB1.out.2.2.2 rfl (by omega) u9 (ops.map fun x => [Value.int .u8 (x.dst % 4)]) [.int .u8 (x.dst % 4)] rfl rfl HX6.out.ht rfl (by simp [Value.oneCell']) (by rw [List.length_map]; omega) (by omega) ?_; intro g7 cap7 w7 hS7 hk7 ho7; have hX7 := HX6.out.pushT HOG.out.2.1 hS7 hk7 (fun g hg => by cases hg; exact ho7); have HX7 := Lib.hid hX7; clear hX7 hS7 hk7 ho7))
                  have hX7 := HX7.out
                  have y0 : w7.cell? ⟨gX, 0, none⟩ = some (.int .u8 x.op) := hX7.hx.cell 0
                  have y1 : w7.cell? ⟨gX, 1, none⟩ = some (.int .u8 (x.dst % 4)) := hX7.hx.cell 1
                  have yd : w7.cell? ⟨gU, (x.dst % 4).toNat, none⟩ = some (.int .u64 (vd : Nat)) := by rw [hX7.hu.cell]; exact uA_at HVD.out
                  clear hX7 u0 u1 u2 u3 x1
                  refine wp_region_mix0 [.w, .w, .l, .w, .w, .w, .l, .w, .l, .w, .t, .w, .w, .w, .t, .t] (by kernel_rfl) (by kernel_rfl) ?_
                  iterate 10 (first
                    | (refine mix_w1 ?_; go_big_quiet_step (fail); refine wpQuiet_nil ?_)
                    | (refine mix_l1 rfl ?_; go_big_quiet_step (fail); refine wpQuiet_nil ?_))
                  refine mix_t fun Q' hQ' => ?_
                  go_wp2_with fail
                  refine (do_sok (by omega) (by omega) n8 _ vd bv _ (HRLT.out vd (List.mem_of_getElem? HVD.out)) hbl).mono ?_
                  rintro e w8 ⟨rfl, hk8⟩
                  generalize hv : doN (x.op / 16).toNat _ vd bv = nv
                  have HNV := Lib.hid (show sVal x [r0, r1, r2, r3] = nv from by rw [HBV.out, ← hv]; try simp [c47])
                  have hX8 := HX7.out.kept (((Kept.refl (fun _ => False) w7).drew).trans hk8 (fun _ _ e => e))
                  have HX8 := Lib.hid hX8
                  have z0 : w8.cell? ⟨gX, 0, none⟩ = some (.int .u8 x.op) := hX8.hx.cell 0
                  have z1 : w8.cell? ⟨gX, 1, none⟩ = some (.int .u8 (x.dst % 4)) := hX8.hx.cell 1
                  have z2 : w8.cell? ⟨gX, 2, none⟩ = some (.int .u8 S) := hX8.hx.cell 2
                  have z3 : w8.cell? ⟨gX, 3, none⟩ = some (.int .i16 0) := hX8.hx.cell 3
                  have z4 : w8.cell? ⟨gX, 4, none⟩ = some (.int .i32 I) := hX8.hx.cell 4
                  have zf := hX8.hu.frozen (x.dst % 4).toNat
                  have zd : w8.cell? ⟨gU, (x.dst % 4).toNat, none⟩ = some (.int .u64 (vd : Nat)) := by rw [hX8.hu.cell]; exact uA_at HVD.out
                  have hux := hX8.ux
                  clear hv hX8 hk8 y0 y1 yd
                  go_wp2_with fail
                  iterate 3 (refine mix_w1 ?_; go_big_quiet_step (fail); refine wpQuiet_nil ?_)
                  iterate 2 (refine mix_t fun Q' hQ' => ?_; go_wp2_with fail)
                  refine mix_nil ?_
                  go_upto_region 30 with fail
                  have hX9 := HX8.out.setU HGU.out (x.dst % 4).toNat nv
                  generalize w8.setCell ⟨gU, (x.dst % 4).toNat, none⟩ (.int .u64 (nv : Nat)) = w9 at *
                  have HX9 := Lib.hid hX9
                  have q0 : w9.cell? ⟨gX, 0, none⟩ = some (.int .u8 x.op) := hX9.hx.cell 0
                  have q1 : w9.cell? ⟨gX, 1, none⟩ = some (.int .u8 (x.dst % 4)) := hX9.hx.cell 1
                  have q2 : w9.cell? ⟨gX, 2, none⟩ = some (.int .u8 S) := hX9.hx.cell 2
                  have q3 : w9.cell? ⟨gX, 3, none⟩ = some (.int .i16 0) := hX9.hx.cell 3
                  have q4 : w9.cell? ⟨gX, 4, none⟩ = some (.int .i32 I) := hX9.hx.cell 4
                  clear hX9 z0 z1 z2 z3 z4 zf zd
                  go_wp2_with (at_builtin; refine wpList_appendS rfl _ _ 22 rfl Tryz.underlying22 HI0.out.1 HI0.out.2.1 HI0.out.2.2.1 HI0.out.2.2.2 rfl u5 (.slice (some ⟨w9.heap.size, 0, none⟩) 1 1) ((List.range 4).map (movF [f0, f1, f2, f3]) ++ ops.map sIn) [⟨x.op, x.dst % 4, S, 0, I⟩] rfl rfl (Sl.alloc HX9.out.hp _) (InS.ins (inS_one2 w9 ⟨x.op, x.dst % 4, S, 0, I⟩ rfl)) (by simp) (by simp; omega) ?_; intro v10 w10 hS10 hk10 hv10; have HX10 := Lib.hid ((HX9.out.alloc _).pushP HOG.out.2.2 hS10 hk10 hv10); clear hS10 hk10 hv10)
                  have hX := HX10.out
                  refine ⟨⟨j + 1, by simp, hj1, ?_, ?_, ?_, ?_, fun g hg => (hX.o1 g hg).1, hX.o2, hX.o3, hX.hk⟩, ?_⟩
                  · rw [HSM.out, List.map_append, ← List.append_assoc, List.map_singleton, HSI.out]
                    exact hX.hp
                  · rw [HSM.out, wantR_app, HR.out]
                    exact hX.hw
                  · rw [HSM.out, List.map_append]
                    have h1 := hX.ht
                    rw [List.length_map] at h1
                    exact h1
                  · rw [HSM.out, List.length_append, List.length_singleton, regsN_last, HR.out, HNV.out]
                    exact hX.hu
                  · show l.length - ((j : Int) + 1).toNat < l.length - ((j : Int)).toNat
                    omega
      case pos =>
        have hiu : i % 256 = i := by omega
        obtain ⟨fv, hfv⟩ : ∃ fv, [f0, f1, f2, f3][i]? = some fv := ⟨_, List.getElem?_eq_getElem (by simpa using hlt)⟩
        have hfr := hf fv (List.mem_of_getElem? hfv)
        have HFV := Lib.hid hfv
        have qf : wr.cell? ⟨gF, i, none⟩ = some (.int .i32 fv) := by
          rw [HBF.out.cell]
          rcases (by omega : i = 0 ∨ i = 1 ∨ i = 2 ∨ i = 3) with rfl | rfl | rfl | rfl <;> (cases hfv; rfl)
        have hmv : movF [f0, f1, f2, f3] i = ⟨183, i, 0, 0, fv⟩ := by unfold movF; rw [List.getD_eq_getElem?_getD, hfv]; rfl
        have HMV := Lib.hid hmv
        have HML := Lib.hid (show ((List.range i).map (movF [f0, f1, f2, f3])).length = i by simp)
        have hgFl := HBF.out.lt
        have hgUl := HBU.out.lt
        clear hfv hmv
        go_wp2_with (at_builtin; refine wpList_appendS rfl _ _ 22 rfl Tryz.underlying22 HI0.out.1 HI0.out.2.1 HI0.out.2.2.1 HI0.out.2.2.2 rfl u5 (.slice (some ⟨wr.heap.size, 0, none⟩) 1 1) ((List.range i).map (movF [f0, f1, f2, f3])) [⟨183, i, 0, 0, fv⟩] rfl rfl (Sl.alloc HP.out _) (InS.ins (inS_one2 wr ⟨183, i, 0, 0, fv⟩ rfl)) (by simp) (by rw [HML.out]; simp; omega) ?_; intro v5 w5 hS5 hk5 hv5; have hk5' := ((Kept.refl (fun k => u5.ownBlock = some k) wr).alloc (.cells #[.int .u8 183, .int .u8 i, .int .u8 0, .int .i16 0, .int .i32 fv] 75)).trans hk5 (fun _ _ e => e); have hbF5 := hk5'.blk (fun e => by have := HOW.out gF e; omega) HBF.out; have hbU5 := hk5'.blk (fun e => by have := HOW.out gU e; omega) HBU.out; have HB5 := Lib.hid (And.intro hbF5 (And.intro hbU5 hk5')); have qf5 : w5.cell? ⟨gF, i, none⟩ = some (.int .i32 fv) := (by rw [hbF5.cell, ← HBF.out.cell]; exact qf); have hz5 := hbU5.frozen i; have hu5 : ∃ n : Int, w5.cell? ⟨gU, i, none⟩ = some (.int .u64 n) := (by rw [hbU5.cell]; exact uA_get _ (by rw [uP_len]; exact hlt)); obtain ⟨n5, hn5⟩ := hu5; clear hk5 hk5' hbF5 hbU5)
        have hs : IntKind.u64.wrap fv = ((signN fv : Nat) : Int) := by
          rw [wrapU]
          unfold signN
          omega
        have hks : Kept (fun g => g = gU) w5 (w5.setCell ⟨gU, i, none⟩ (.int .u64 (IntKind.u64.wrap fv))) := Kept.setCell (F := fun g => g = gU) (Kept.refl _ w5) (fun _ => rfl) _
        have hown5 : ∀ g, v5.ownBlock = some g → gU < g := fun g hg => by
          rcases hv5 g hg with h | h
          · exact HOW.out g h
          · have : wr.heap.size < g := by simp at h; omega
            omega
        refine ⟨⟨i + 1, by simp, by omega, ?_, hown5, ?_, ?_, ?_⟩, ?_⟩
        · rw [movF_ins _ hlt, HMV.out]
          exact Sl.kept hks hS5 (fun g hg e => by have := hown5 g hg; omega)
        · exact hks.blk (by omega) HB5.out.1
        · have h1 := HB5.out.2.1.set_ i (.int .u64 (IntKind.u64.wrap fv))
          rw [hs] at h1 ⊢
          rw [uA_set, ← uP_succ hlt HFV.out] at h1
          exact h1
        · exact ((HK.out.trans HB5.out.2.2 (fun g hg e => by have := HOW.out g e; omega))).trans hks (fun g hg e => by omega)
        · show 4 - ((i : Int) + 1).toNat < 4 - ((i : Int)).toNat
          omega

end Go.Proofs.YtdchmelgaljpfaaGreat

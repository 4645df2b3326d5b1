import Derived.Test.YtlkgmcacbfoijaaGreatZbk
set_option linter.unusedSimpArgs false
set_option linter.unusedVariables false
namespace Go.Proofs.YtlkgmcacbfoijaaGreat
open Go.RowKit

/-! ### one slot of the document's table -/
set_option maxHeartbeats 4000000 in
set_option maxRecDepth 100000 in
theorem rafter_any (l : List In) (a : Option Addr) (c i : Nat) (x : In) (w : World) (h : Ins w (.slice a l.length c) l) (hok : InsOk l) (hx : l[i]? = some x) (hk : knownB x = true) :
    Calls Tryz.prog 23 #[.slice a l.length c, .int .i64 i] w fun e w' => ∃ na nc, e = .returned (.slice na (nextC i x).length nc) ∧ Ints w' (.slice na (nextC i x).length nc) (nextC i x) ∧ Kept (fun _ => False) w w' ∧ ∀ g, (Value.slice na (nextC i x).length nc).ownBlock = some g → w.heap.size ≤ g := by
  have HNE := Lib.hid (rnext_any l a c i x w h hok hx)
  rw [nextR_eq (hok.at_ hx) hk] at HNE
  clear h hok hx hk
  go_enter Tryz.func23, Tryz.ntmps23
  go_wp2_with fail
  refine HNE.out.mono ?_
  rintro e w1 ⟨ov, rfl, hN, hk1, ho⟩
  obtain ⟨na, nc, rfl⟩ := Sl.any hN
  rw [List.length_map] at *
  go_wp2_with fail
  go_ret
  exact ⟨_, _, rfl, hN, hk1, ho⟩
set_option maxHeartbeats 16000000 in
set_option maxRecDepth 100000 in
theorem rone_any (l : List In) (a : Option Addr) (c i : Nat) (x : In) (TL TS TW : List Nat) (gL gS gW : Nat) (w : World) (h : Ins w (.slice a l.length c) l) (hok : InsOk l) (hz : checkI l = 0) (hr : Rch l i) (hx : l[i]? = some x)
    (hM : TM l.length gL gS gW w TL TS TW) (tL : ∀ t ∈ TL, t ≤ top) (tS : ∀ t ∈ TS, t ≤ top) (tW : ∀ t ∈ TW, t ≤ top) :
    Calls Tryz.prog 36 #[.agg #[.slice (some ⟨gL, 0, none⟩) l.length l.length, .slice (some ⟨gS, 0, none⟩) l.length l.length, .slice (some ⟨gW, 0, none⟩) l.length l.length], .slice a l.length c, .int .i64 i] w fun e w' =>
      e = .returned (.tuple #[]) ∧ TM l.length gL gS gW w' (TL.set i (docV longR (fun k => TL.getD k 0) i x)) (TS.set i (docV shortR (fun k => TS.getD k 0) i x)) (TW.set i (docV waysR (fun k => TW.getD k 0) i x)) ∧ Kept (fun g => g = gL ∨ g = gS ∨ g = gW) w w' := by
  have hlen := hok.len
  have hi := (List.getElem?_eq_some_iff.1 hx).1
  have hsec := (rch_ok hz hr).2
  have hkn := known_of (check_parts hz).1 hx hsec
  have HAF := Lib.hid (fun W hI => rafter_any l a c i x W hI hok hx hkn)
  have HIN := Lib.hid (fun (W : World) (hk : Kept (fun _ => False) w W) => h.kept hk)
  have HNO := Lib.hid (fun j hj => next_ok hz hx hsec (j := j) hj)
  have HCO := Lib.hid (fun hc => nam_ok hz hx hsec hc)
  have HIS := Lib.hid (fun W => ris_any x 8 W (hok.at_ hx))
  rw [isR8 (hok.at_ hx) hkn] at HIS
  have himm := (hok.at_ hx).imm
  have HTL := Lib.hid (getD_top tL)
  have HTS := Lib.hid (getD_top tS)
  have HTW := Lib.hid (getD_top tW)
  obtain ⟨hll, hls, hlw⟩ : TL.length = l.length ∧ TS.length = l.length ∧ TW.length = l.length := ⟨hM.ll, hM.ls, hM.lw⟩
  have hne := hM.ne
  have hlL := Sl.lt hM.l gL rfl
  have hlS := Sl.lt hM.s gS rfl
  have hlW := Sl.lt hM.w_ gW rfl
  have HM := Lib.hid hM
  have HX := Lib.hid hx
  have hnl := next_len i x
  have hk0 := (Kept.refl (fun _ => False) w).alloc (.cells #[.slice (some ⟨gL, 0, none⟩) l.length l.length, .slice (some ⟨gS, 0, none⟩) l.length l.length, .slice (some ⟨gW, 0, none⟩) l.length l.length] 60)
  have hb0 := Blk.new w 60 #[.slice (some ⟨gL, 0, none⟩) l.length l.length, .slice (some ⟨gS, 0, none⟩) l.length l.length, .slice (some ⟨gW, 0, none⟩) l.length l.length]
  have HB0 := Lib.hid (And.intro hk0 hb0)
  clear hz hr hx hsec hkn tL tS tW hM hok hk0 hb0
  go_enter Tryz.func36, Tryz.ntmps36
  go_wp2_with fail
  refine (HAF.out _ (HIN.out _ HB0.out.1)).mono ?_
  rintro e w1 ⟨na, nc, rfl, hN, hk1, hno⟩
  have hK1 := HB0.out.1.trans hk1 (fun _ _ h => h)
  have hB1 := hk1.blk id HB0.out.2
  have hM1 := HM.out.kept hK1 (fun _ h => h.elim)
  have hbs : (w.alloc (.cells #[.slice (some ⟨gL, 0, none⟩) l.length l.length, .slice (some ⟨gS, 0, none⟩) l.length l.length, .slice (some ⟨gW, 0, none⟩) l.length l.length] 60)).heap.size = w.heap.size + 1 := by simp
  rw [hbs] at hno
  clear hbs HAF HB0
  generalize hbt : w.heap.size = bt at *
  have hbtL : bt ≠ gL := by omega
  have hbtS : bt ≠ gS := by omega
  have hbtW : bt ≠ gW := by omega
  have HN := Lib.hid hN
  have HNO2 := Lib.hid hno
  clear hN hno HM
  obtain ⟨N, hNe⟩ : ∃ N, nextC i x = N := ⟨_, rfl⟩
  rw [hNe] at HN HNO2 HNO hnl ⊢
  have HNE := Lib.hid hNe
  clear hNe
  cases N with
  | nil =>
    have hzz : (((([] : List Int).length : Nat) : Int) == 0) = true := rfl
    clear HN HNO2
    go_wp2_with fail
    refine wp_region_mix [.w, .l, .w, .w, .l, .w, .w, .l, .w, .w, .k, .w, .k, .w, .k] (by kernel_rfl) (by kernel_rfl) (fun W => Blk W bt 60 #[.slice (some ⟨gL, 0, none⟩) l.length l.length, .slice (some ⟨gS, 0, none⟩) l.length l.length, .slice (some ⟨gW, 0, none⟩) l.length l.length]) ?_
    have HC0 : Blk w1.drew bt 60 #[.slice (some ⟨gL, 0, none⟩) l.length l.length, .slice (some ⟨gS, 0, none⟩) l.length l.length, .slice (some ⟨gW, 0, none⟩) l.length l.length] := hB1.drew
    have hM0 := hM1.drew
    have hK0 : Kept (fun g => g = gL ∨ g = gS ∨ g = gW) w w1.drew := (hK1.mono (fun _ _ h => h.elim)).drew
    generalize w1.drew = wz0 at *
    refine mix_w1 ?_; go_big_quiet_step (fail); refine wpQuiet_nil ?_
    refine mix_load1 HC0 rfl 58 (.tmp 18) rfl naUs ⟨bt, 0, none⟩ (.slice (some ⟨gL, 0, none⟩) l.length l.length) rfl (fun w' hw' => hw'.cell 0) ?_
    simp only [Act.put, List.setIfInBounds_toArray, List.set_cons_succ, List.set_cons_zero]
    refine mix_w1 ?_; go_big_quiet_step (fail); refine wpQuiet_nil ?_
    refine mix_w1 ?_; go_big_quiet_step (fail); refine wpQuiet_nil ?_
    refine mix_load1 HC0 rfl 58 (.tmp 21) rfl naUs ⟨bt, 1, none⟩ (.slice (some ⟨gS, 0, none⟩) l.length l.length) rfl (fun w' hw' => hw'.cell 1) ?_
    simp only [Act.put, List.setIfInBounds_toArray, List.set_cons_succ, List.set_cons_zero]
    refine mix_w1 ?_; go_big_quiet_step (fail); refine wpQuiet_nil ?_
    refine mix_w1 ?_; go_big_quiet_step (fail); refine wpQuiet_nil ?_
    refine mix_load1 HC0 rfl 58 (.tmp 24) rfl naUs ⟨bt, 2, none⟩ (.slice (some ⟨gW, 0, none⟩) l.length l.length) rfl (fun w' hw' => hw'.cell 2) ?_
    simp only [Act.put, List.setIfInBounds_toArray, List.set_cons_succ, List.set_cons_zero]
    refine mix_w1 ?_; go_big_quiet_step (fail); refine wpQuiet_nil ?_
    refine mix_w1 ?_; go_big_quiet_step (fail); refine wpQuiet_nil ?_
    have fz0 := Sl.frozen hM0.l i
    have lz0 := Sl.lt hM0.l gL rfl
    have cz0 := Us.cell hM0.l (i := i) (by rw [hM0.ll]; exact hi)
    refine mix_k HC0 fun Q' hQ' => ?_
    go_wp2_with fail
    have HC1 : Blk (wz0.setCell ⟨gL, i, none⟩ (Go.Proofs.YtlkgmcacbfoijaaGreat.u64 (1))) bt 60 #[.slice (some ⟨gL, 0, none⟩) l.length l.length, .slice (some ⟨gS, 0, none⟩) l.length l.length, .slice (some ⟨gW, 0, none⟩) l.length l.length] := Blk.far HC0 (show bt ≠ gL from hbtL) _
    have hM1 := hM0.setL hi (1)
    have hK1 := hK0.setCell (p := ⟨gL, i, none⟩) (fun _ => .inl rfl) (Go.Proofs.YtlkgmcacbfoijaaGreat.u64 (1))
    refine hQ' _ _ HC1 ?_
    clear hQ' Q' fz0 lz0 cz0 hM0 HC0 hK0
    generalize wz0.setCell ⟨gL, i, none⟩ (Go.Proofs.YtlkgmcacbfoijaaGreat.u64 (1)) = wz1 at *
    refine mix_w1 ?_; go_big_quiet_step (fail); refine wpQuiet_nil ?_
    have fz1 := Sl.frozen hM1.s i
    have lz1 := Sl.lt hM1.s gS rfl
    have cz1 := Us.cell hM1.s (i := i) (by rw [hM1.ls]; exact hi)
    refine mix_k HC1 fun Q' hQ' => ?_
    go_wp2_with fail
    have HC2 : Blk (wz1.setCell ⟨gS, i, none⟩ (Go.Proofs.YtlkgmcacbfoijaaGreat.u64 (1))) bt 60 #[.slice (some ⟨gL, 0, none⟩) l.length l.length, .slice (some ⟨gS, 0, none⟩) l.length l.length, .slice (some ⟨gW, 0, none⟩) l.length l.length] := Blk.far HC1 (show bt ≠ gS from hbtS) _
    have hM2 := hM1.setS hi (1)
    have hK2 := hK1.setCell (p := ⟨gS, i, none⟩) (fun _ => .inr (.inl rfl)) (Go.Proofs.YtlkgmcacbfoijaaGreat.u64 (1))
    refine hQ' _ _ HC2 ?_
    clear hQ' Q' fz1 lz1 cz1 hM1 HC1 hK1
    generalize wz1.setCell ⟨gS, i, none⟩ (Go.Proofs.YtlkgmcacbfoijaaGreat.u64 (1)) = wz2 at *
    refine mix_w1 ?_; go_big_quiet_step (fail); refine wpQuiet_nil ?_
    have fz2 := Sl.frozen hM2.w_ i
    have lz2 := Sl.lt hM2.w_ gW rfl
    have cz2 := Us.cell hM2.w_ (i := i) (by rw [hM2.lw]; exact hi)
    refine mix_k HC2 fun Q' hQ' => ?_
    go_wp2_with fail
    have HC3 : Blk (wz2.setCell ⟨gW, i, none⟩ (Go.Proofs.YtlkgmcacbfoijaaGreat.u64 (1))) bt 60 #[.slice (some ⟨gL, 0, none⟩) l.length l.length, .slice (some ⟨gS, 0, none⟩) l.length l.length, .slice (some ⟨gW, 0, none⟩) l.length l.length] := Blk.far HC2 (show bt ≠ gW from hbtW) _
    have hM3 := hM2.setW hi (1)
    have hK3 := hK2.setCell (p := ⟨gW, i, none⟩) (fun _ => .inr (.inr rfl)) (Go.Proofs.YtlkgmcacbfoijaaGreat.u64 (1))
    refine hQ' _ _ HC3 ?_
    clear hQ' Q' fz2 lz2 cz2 hM2 HC2 hK2
    generalize wz2.setCell ⟨gW, i, none⟩ (Go.Proofs.YtlkgmcacbfoijaaGreat.u64 (1)) = wz3 at *
    refine mix_done ?_
    go_wp2_with fail
    refine bodyPost_ret (v := .tuple #[]) (by simp [results, Tryz.results36, go_sem]) rfl ?_
    exact ⟨rfl, by rw [docV_nil HNE.out, docV_nil HNE.out, docV_nil HNE.out]; exact hM3, hK3⟩
  | cons j js =>
    obtain ⟨q, hq⟩ : ∃ q, (j :: js).length = q := ⟨_, rfl⟩
    rw [hq] at HN HNO2 hnl ⊢
    have hq1 : js.length + 1 = q := hq
    clear hq
    have hqz : ((q : Int) == 0) = false := beq_eq_false_iff_ne.2 (by omega)
    obtain ⟨jn, rfl, hjl, -⟩ := HNO.out j (by simp)
    obtain ⟨ng, ncap, hnv, hnc, hngl⟩ := Sl.some_ HN.out (by simp)
    rw [show (List.map icell' ((jn : Int) :: js)).length = q by rw [List.length_map]; exact hq1] at hnv
    cases hnv
    have hng0 := HNO2.out ng rfl
    have hn0 := Ints.cell HN.out (i := 0) (x := (jn : Int)) rfl
    have hcL := Us.cell hM1.l (i := jn) (by omega)
    have hcS := Us.cell hM1.s (i := jn) (by omega)
    have hcW := Us.cell hM1.w_ (i := jn) (by omega)
    obtain ⟨J1, hJ1⟩ : ∃ T, TL.getD jn 0 = T := ⟨_, rfl⟩
    obtain ⟨J2, hJ2⟩ : ∃ T, TS.getD jn 0 = T := ⟨_, rfl⟩
    obtain ⟨J3, hJ3⟩ : ∃ T, TW.getD jn 0 = T := ⟨_, rfl⟩
    rw [hJ1] at hcL
    rw [hJ2] at hcS
    rw [hJ3] at hcW
    have HJ1 := Lib.hid hJ1
    have HJ2 := Lib.hid hJ2
    have HJ3 := Lib.hid hJ3
    clear hJ1 hJ2 hJ3
    have cb0 := hB1.cell 0
    have cb1 := hB1.cell 1
    have cb2 := hB1.cell 2
    have lb1 := hB1.lt
    have ll1 := Sl.lt hM1.l gL rfl
    have ls1 := Sl.lt hM1.s gS rfl
    have lw1 := Sl.lt hM1.w_ gW rfl
    have HB1 := Lib.hid hB1
    have HM1 := Lib.hid hM1
    have HK1 := Lib.hid hK1
    clear hB1 hM1 hK1 hk1 hnc
    go_wp2_with fail
    refine wp_region_mix0 [.w, .l, .w, .w, .l, .w, .l, .w, .l, .w, .w, .l, .w, .l, .w, .l, .w, .w, .l, .w, .l, .w, .w, .w] (by kernel_rfl) (by kernel_rfl) ?_
    refine mix_w1 ?_; go_big_quiet_step (fail); refine wpQuiet_nil ?_
    refine mix_l1 rfl ?_; go_big_quiet_step (fail); refine wpQuiet_nil ?_
    refine mix_w1 ?_; go_big_quiet_step (fail); refine wpQuiet_nil ?_
    refine mix_w1 ?_; go_big_quiet_step (fail); refine wpQuiet_nil ?_
    refine mix_l1 rfl ?_; go_big_quiet_step (fail); refine wpQuiet_nil ?_
    refine mix_w1 ?_; go_big_quiet_step (fail); refine wpQuiet_nil ?_
    refine mix_l1 rfl ?_; go_big_quiet_step (fail); refine wpQuiet_nil ?_
    refine mix_w1 ?_; go_big_quiet_step (fail); refine wpQuiet_nil ?_
    refine mix_l1 rfl ?_; go_big_quiet_step (fail); refine wpQuiet_nil ?_
    refine mix_w1 ?_; go_big_quiet_step (fail); refine wpQuiet_nil ?_
    refine mix_w1 ?_; go_big_quiet_step (fail); refine wpQuiet_nil ?_
    refine mix_l1 rfl ?_; go_big_quiet_step (fail); refine wpQuiet_nil ?_
    refine mix_w1 ?_; go_big_quiet_step (fail); refine wpQuiet_nil ?_
    refine mix_l1 rfl ?_; go_big_quiet_step (fail); refine wpQuiet_nil ?_
    refine mix_w1 ?_; go_big_quiet_step (fail); refine wpQuiet_nil ?_
    refine mix_l1 rfl ?_; go_big_quiet_step (fail); refine wpQuiet_nil ?_
    refine mix_w1 ?_; go_big_quiet_step (fail); refine wpQuiet_nil ?_
    refine mix_w1 ?_; go_big_quiet_step (fail); refine wpQuiet_nil ?_
    refine mix_l1 rfl ?_; go_big_quiet_step (fail); refine wpQuiet_nil ?_
    refine mix_w1 ?_; go_big_quiet_step (fail); refine wpQuiet_nil ?_
    refine mix_l1 rfl ?_; go_big_quiet_step (fail); refine wpQuiet_nil ?_
    refine mix_w1 ?_; go_big_quiet_step (fail); refine wpQuiet_nil ?_
    refine mix_w1 ?_; go_big_quiet_step (fail); refine wpQuiet_nil ?_
    refine mix_w1 ?_; go_big_quiet_step (fail); refine wpQuiet_nil ?_
    refine mix_nil ?_
    go_wp2_with fail
    clear hn0 hcL hcS hcW cb0 cb1 cb2 lb1 ll1 ls1 lw1
    go_loopw [7, 8, 9, 10] (fun lv sv uv pv wr => ∃ p M1 M2 M3 : Nat, pv = .int .i64 p ∧ lv = u64 M1 ∧ sv = u64 M2 ∧ uv = u64 M3 ∧ 1 ≤ p ∧ p ≤ q ∧ (M1 = docM longR (fun k => TL.getD k 0) (jn : Int) (js.take (p - 1)) ∧ M2 = docM shortR (fun k => TS.getD k 0) (jn : Int) (js.take (p - 1)) ∧ M3 = docM waysR (fun k => TW.getD k 0) (jn : Int) (js.take (p - 1))) ∧ Kept (fun _ => False) w1 wr) (fun _ _ _ pv _ => q - (intOf pv).toNat)
    case atStart => exact ⟨1, _, _, _, rfl, rfl, rfl, rfl, by omega, by omega, ⟨HJ1.out.symm, HJ2.out.symm, HJ3.out.symm⟩, (Kept.refl _ w1).drew⟩
    case round =>
    obtain ⟨p, M1, M2, M3, rfl, rfl, rfl, rfl, hp1, hpq, hMM, hk⟩ := hrel
    have hm1 : M1 ≤ top := by rw [hMM.1]; exact docM_top HTL.out _ _
    have hm2 : M2 ≤ top := by rw [hMM.2.1]; exact docM_top HTS.out _ _
    have hm3 : M3 ≤ top := by rw [hMM.2.2]; exact docM_top HTW.out _ _
    have hB := hk.blk id HB1.out
    have hM := HM1.out.kept hk (fun _ h => h.elim)
    have hNr := Sl.kept hk HN.out (fun _ _ h => h)
    have HMM := Lib.hid hMM
    have HK := Lib.hid hk
    have HBR := Lib.hid hB
    have HMR := Lib.hid hM
    have HT1 := Lib.hid hm1
    have HT2 := Lib.hid hm2
    have HT3 := Lib.hid hm3
    have cb0 := hB.cell 0
    have cb1 := hB.cell 1
    have cb2 := hB.cell 2
    have lb1 := hB.lt
    have ll1 := Sl.lt hM.l gL rfl
    have ls1 := Sl.lt hM.s gS rfl
    have lw1 := Sl.lt hM.w_ gW rfl
    have hlL := hM.ll
    have hlS := hM.ls
    have hlW := hM.lw
    by_cases hpn : p < q
    case pos =>
      have hpd : decide ((p : Int) < q) = true := decide_eq_true (by omega)
      obtain ⟨kk, hkk⟩ : ∃ z, js[p - 1]? = some z := ⟨_, List.getElem?_eq_getElem (by omega)⟩
      have hkm : ((jn : Int) :: js)[p]? = some kk := by rw [show p = (p - 1) + 1 by omega, List.getElem?_cons_succ]; exact hkk
      obtain ⟨kn, rfl, hkl, -⟩ := HNO.out kk (List.mem_of_getElem? hkm)
      have hnc := Ints.cell hNr hkm
      have hnl2 := Sl.lt hNr ng rfl
      have hcL := Us.cell hM.l (i := kn) (by omega)
      have hcS := Us.cell hM.s (i := kn) (by omega)
      have hcW := Us.cell hM.w_ (i := kn) (by omega)
      have HKK := Lib.hid hkk
      have ht1 := HTL.out kn
      have ht2 := HTS.out kn
      have ht3 := HTW.out kn
      have HRP := Lib.hid (fun W => rplus_any M3 (TW.getD kn 0) W hm3 ht3)
      have htt : top = 9223372036854775807 := rfl
      clear hMM hk hB hM hNr hkk hkm
      generalize hX1 : TL.getD kn 0 = X1 at *
      generalize hX2 : TS.getD kn 0 = X2 at *
      generalize hX3 : TW.getD kn 0 = X3 at *
      have HX1 := Lib.hid hX1
      have HX2 := Lib.hid hX2
      have HX3 := Lib.hid hX3
      clear hX1 hX2 hX3
      go_wp2_with fail
      refine wp_region_mix0 [.w, .w, .l, .w, .w, .w, .l, .w, .l, .w, .w] (by kernel_rfl) (by kernel_rfl) ?_
      refine mix_w1 ?_; go_big_quiet_step (fail); refine wpQuiet_nil ?_
      refine mix_w1 ?_; go_big_quiet_step (fail); refine wpQuiet_nil ?_
      refine mix_l1 rfl ?_; go_big_quiet_step (fail); refine wpQuiet_nil ?_
      refine mix_w1 ?_; go_big_quiet_step (fail); refine wpQuiet_nil ?_
      refine mix_w1 ?_; go_big_quiet_step (fail); refine wpQuiet_nil ?_
      refine mix_w1 ?_; go_big_quiet_step (fail); refine wpQuiet_nil ?_
      refine mix_l1 rfl ?_; go_big_quiet_step (fail); refine wpQuiet_nil ?_
      refine mix_w1 ?_; go_big_quiet_step (fail); refine wpQuiet_nil ?_
      refine mix_l1 rfl ?_; go_big_quiet_step (fail); refine wpQuiet_nil ?_
      refine mix_w1 ?_; go_big_quiet_step (fail); refine wpQuiet_nil ?_
      refine mix_w1 ?_; go_big_quiet_step (fail); refine wpQuiet_nil ?_
      refine mix_nil ?_
      go_wp2_with fail
      refine wp_region_mix0 [.w, .w, .l, .w, .w, .w, .l, .w, .l, .w, .w] (by kernel_rfl) (by kernel_rfl) ?_
      refine mix_w1 ?_; go_big_quiet_step (fail); refine wpQuiet_nil ?_
      refine mix_w1 ?_; go_big_quiet_step (fail); refine wpQuiet_nil ?_
      refine mix_l1 rfl ?_; go_big_quiet_step (fail); refine wpQuiet_nil ?_
      refine mix_w1 ?_; go_big_quiet_step (fail); refine wpQuiet_nil ?_
      refine mix_w1 ?_; go_big_quiet_step (fail); refine wpQuiet_nil ?_
      refine mix_w1 ?_; go_big_quiet_step (fail); refine wpQuiet_nil ?_
      refine mix_l1 rfl ?_; go_big_quiet_step (fail); refine wpQuiet_nil ?_
      refine mix_w1 ?_; go_big_quiet_step (fail); refine wpQuiet_nil ?_
      refine mix_l1 rfl ?_; go_big_quiet_step (fail); refine wpQuiet_nil ?_
      refine mix_w1 ?_; go_big_quiet_step (fail); refine wpQuiet_nil ?_
      refine mix_w1 ?_; go_big_quiet_step (fail); refine wpQuiet_nil ?_
      refine mix_nil ?_
      go_wp2_with fail
      refine wp_region_mix0 [.w, .w, .l, .w, .w, .w, .l, .w, .l, .t, .w] (by kernel_rfl) (by kernel_rfl) ?_
      refine mix_w1 ?_; go_big_quiet_step (fail); refine wpQuiet_nil ?_
      refine mix_w1 ?_; go_big_quiet_step (fail); refine wpQuiet_nil ?_
      refine mix_l1 rfl ?_; go_big_quiet_step (fail); refine wpQuiet_nil ?_
      refine mix_w1 ?_; go_big_quiet_step (fail); refine wpQuiet_nil ?_
      refine mix_w1 ?_; go_big_quiet_step (fail); refine wpQuiet_nil ?_
      refine mix_w1 ?_; go_big_quiet_step (fail); refine wpQuiet_nil ?_
      refine mix_l1 rfl ?_; go_big_quiet_step (fail); refine wpQuiet_nil ?_
      refine mix_w1 ?_; go_big_quiet_step (fail); refine wpQuiet_nil ?_
      refine mix_l1 rfl ?_; go_big_quiet_step (fail); refine wpQuiet_nil ?_
      refine mix_t fun Q' hQ' => ?_
      go_wp2_with fail
      refine (HRP.out _).mono ?_
      rintro e wz ⟨rfl, rfl⟩
      go_wp2_with fail
      refine mix_w1 ?_; go_big_quiet_step (fail); refine wpQuiet_nil ?_
      refine mix_nil ?_
      go_wp2_with fail
      go_roundw
      case rel =>
        have e1 := docM_take (R := longR) (V := (fun k => TL.getD k 0)) (j := (jn : Int)) HKK.out
        have e2 := docM_take (R := shortR) (V := (fun k => TS.getD k 0)) (j := (jn : Int)) HKK.out
        have e3 := docM_take (R := waysR) (V := (fun k => TW.getD k 0)) (j := (jn : Int)) HKK.out
        rw [show p - 1 + 1 = p by omega] at e1 e2 e3
        simp only [Int.toNat_natCast, HX1.out, HX2.out, HX3.out, ← HMM.out.1, ← HMM.out.2.1, ← HMM.out.2.2] at e1 e2 e3
        refine ⟨p + 1, _, _, _, by simp, ?_, ?_, ?_, by omega, by omega, ⟨e1.symm, e2.symm, e3.symm⟩, HK.out.drew.drew.drew⟩
        · exact congrArg (Value.int .u64) (by show _ = ((max M1 X1 : Nat) : Int); omega)
        · exact congrArg (Value.int .u64) (by show _ = ((min M2 X2 : Nat) : Int); omega)
        · rfl
      case measure => (simp [intOf]; omega)
    case neg =>
    obtain rfl : q = p := by omega
    have hpd : decide ((q : Int) < q) = false := decide_eq_false (by omega)
    have hMA := HMM.out
    rw [List.take_of_length_le (by omega)] at hMA
    obtain ⟨g2, o2, hv2, hg2, d0, d1, d2, d3, d4⟩ := (HIN.out wr (HK1.out.trans hk (fun _ _ h => h))).at_ HX.out
    cases hv2
    clear hMM hk hB hM hNr cb0 cb1 cb2
    cases q1 : (x.op == 133)
    case false =>
      rw [q1] at HIS
      have hsb : subB x = false := by unfold subB; rw [q1]; rfl
      have HE : Hid (docV longR (fun k => TL.getD k 0) i x = plusN M1 1 ∧ docV shortR (fun k => TS.getD k 0) i x = plusN M2 1 ∧ docV waysR (fun k => TW.getD k 0) i x = M3) := Lib.hid (by
        rw [docV_cons HNE.out, docV_cons HNE.out, docV_cons HNE.out]
        unfold docS
        rw [if_neg (by rw [hsb]; decide), if_neg (by rw [hsb]; decide), if_neg (by rw [hsb]; decide), ← hMA.1, ← hMA.2.1, ← hMA.2.2]
        refine ⟨rfl, rfl, ?_⟩
        show timesN M3 1 = M3
        rw [timesN_eq, Nat.mul_one, Nat.min_eq_left hm3])
      have HP1 := Lib.hid (fun W => rplus_any (M1) 1 W hm1 one_top)
      have HP2 := Lib.hid (fun W => rplus_any (M2) 1 W hm2 one_top)
      clear hMA hsb
      go_wp2_with fail
      refine (HIS.out _).mono ?_
      rintro e w4 ⟨rfl, hk4⟩
      have hB4 := hk4.blk id HBR.out
      have hM4 := HMR.out.kept hk4 (fun _ h => h.elim)
      have hK4 := (HK1.out.trans HK.out (fun _ _ h => h)).trans hk4 (fun _ _ h => h)
      clear hk4 HB1 HM1 HIN
      go_wp2_with fail
      refine wp_region_mix [.w, .l, .w, .w, .l, .w, .w, .l, .w, .w, .k, .w, .k, .w, .w, .k, .w, .k, .w, .k] (by kernel_rfl) (by kernel_rfl) (fun W => Blk W bt 60 #[.slice (some ⟨gL, 0, none⟩) l.length l.length, .slice (some ⟨gS, 0, none⟩) l.length l.length, .slice (some ⟨gW, 0, none⟩) l.length l.length]) ?_
      have HC0 : Blk (w4).drew bt 60 #[.slice (some ⟨gL, 0, none⟩) l.length l.length, .slice (some ⟨gS, 0, none⟩) l.length l.length, .slice (some ⟨gW, 0, none⟩) l.length l.length] := (hB4).drew
      have hM0 := TM.drew (hM4)
      have hK0 : Kept (fun g => g = gL ∨ g = gS ∨ g = gW) w (w4).drew := (Kept.mono (hK4) (fun _ _ h => h.elim)).drew
      generalize (w4).drew = wz0 at *
      refine mix_w1 ?_; go_big_quiet_step (fail); refine wpQuiet_nil ?_
      refine mix_load1 HC0 rfl 58 (.tmp 130) rfl naUs ⟨bt, 0, none⟩ (.slice (some ⟨gL, 0, none⟩) l.length l.length) rfl (fun w' hw' => hw'.cell 0) ?_
      simp only [Act.put, List.setIfInBounds_toArray, List.set_cons_succ, List.set_cons_zero]
      refine mix_w1 ?_; go_big_quiet_step (fail); refine wpQuiet_nil ?_
      refine mix_w1 ?_; go_big_quiet_step (fail); refine wpQuiet_nil ?_
      refine mix_load1 HC0 rfl 58 (.tmp 133) rfl naUs ⟨bt, 1, none⟩ (.slice (some ⟨gS, 0, none⟩) l.length l.length) rfl (fun w' hw' => hw'.cell 1) ?_
      simp only [Act.put, List.setIfInBounds_toArray, List.set_cons_succ, List.set_cons_zero]
      refine mix_w1 ?_; go_big_quiet_step (fail); refine wpQuiet_nil ?_
      refine mix_w1 ?_; go_big_quiet_step (fail); refine wpQuiet_nil ?_
      refine mix_load1 HC0 rfl 58 (.tmp 136) rfl naUs ⟨bt, 2, none⟩ (.slice (some ⟨gW, 0, none⟩) l.length l.length) rfl (fun w' hw' => hw'.cell 2) ?_
      simp only [Act.put, List.setIfInBounds_toArray, List.set_cons_succ, List.set_cons_zero]
      refine mix_w1 ?_; go_big_quiet_step (fail); refine wpQuiet_nil ?_
      refine mix_w1 ?_; go_big_quiet_step (fail); refine wpQuiet_nil ?_
      refine mix_k HC0 fun Q' hQ' => ?_
      go_wp2_with fail
      refine (HP1.out _).mono ?_
      rintro e wy ⟨rfl, rfl⟩
      go_wp2_with fail
      refine hQ' _ _ HC0 ?_
      clear hQ' Q'
      refine mix_w1 ?_; go_big_quiet_step (fail); refine wpQuiet_nil ?_
      refine mix_k HC0 fun Q' hQ' => ?_
      go_wp2_with fail
      refine (HP2.out _).mono ?_
      rintro e wy ⟨rfl, rfl⟩
      go_wp2_with fail
      refine hQ' _ _ HC0 ?_
      clear hQ' Q'
      refine mix_w1 ?_; go_big_quiet_step (fail); refine wpQuiet_nil ?_
      refine mix_w1 ?_; go_big_quiet_step (fail); refine wpQuiet_nil ?_
      have fz0 := Sl.frozen hM0.l i
      have lz0 := Sl.lt hM0.l gL rfl
      have cz0 := Us.cell hM0.l (i := i) (by rw [hM0.ll]; exact hi)
      refine mix_k HC0 fun Q' hQ' => ?_
      go_wp2_with fail
      have HC1 : Blk (wz0.setCell ⟨gL, i, none⟩ (Go.Proofs.YtlkgmcacbfoijaaGreat.u64 (plusN (M1) 1))) bt 60 #[.slice (some ⟨gL, 0, none⟩) l.length l.length, .slice (some ⟨gS, 0, none⟩) l.length l.length, .slice (some ⟨gW, 0, none⟩) l.length l.length] := Blk.far HC0 (show bt ≠ gL from hbtL) _
      have hM1 := hM0.setL hi (plusN (M1) 1)
      have hK1 := hK0.setCell (p := ⟨gL, i, none⟩) (fun _ => .inl rfl) (Go.Proofs.YtlkgmcacbfoijaaGreat.u64 (plusN (M1) 1))
      refine hQ' _ _ HC1 ?_
      clear hQ' Q' fz0 lz0 cz0 hM0 HC0 hK0
      generalize wz0.setCell ⟨gL, i, none⟩ (Go.Proofs.YtlkgmcacbfoijaaGreat.u64 (plusN (M1) 1)) = wz1 at *
      refine mix_w1 ?_; go_big_quiet_step (fail); refine wpQuiet_nil ?_
      have fz1 := Sl.frozen hM1.s i
      have lz1 := Sl.lt hM1.s gS rfl
      have cz1 := Us.cell hM1.s (i := i) (by rw [hM1.ls]; exact hi)
      refine mix_k HC1 fun Q' hQ' => ?_
      go_wp2_with fail
      have HC2 : Blk (wz1.setCell ⟨gS, i, none⟩ (Go.Proofs.YtlkgmcacbfoijaaGreat.u64 (plusN (M2) 1))) bt 60 #[.slice (some ⟨gL, 0, none⟩) l.length l.length, .slice (some ⟨gS, 0, none⟩) l.length l.length, .slice (some ⟨gW, 0, none⟩) l.length l.length] := Blk.far HC1 (show bt ≠ gS from hbtS) _
      have hM2 := hM1.setS hi (plusN (M2) 1)
      have hK2 := hK1.setCell (p := ⟨gS, i, none⟩) (fun _ => .inr (.inl rfl)) (Go.Proofs.YtlkgmcacbfoijaaGreat.u64 (plusN (M2) 1))
      refine hQ' _ _ HC2 ?_
      clear hQ' Q' fz1 lz1 cz1 hM1 HC1 hK1
      generalize wz1.setCell ⟨gS, i, none⟩ (Go.Proofs.YtlkgmcacbfoijaaGreat.u64 (plusN (M2) 1)) = wz2 at *
      refine mix_w1 ?_; go_big_quiet_step (fail); refine wpQuiet_nil ?_
      have fz2 := Sl.frozen hM2.w_ i
      have lz2 := Sl.lt hM2.w_ gW rfl
      have cz2 := Us.cell hM2.w_ (i := i) (by rw [hM2.lw]; exact hi)
      refine mix_k HC2 fun Q' hQ' => ?_
      go_wp2_with fail
      have HC3 : Blk (wz2.setCell ⟨gW, i, none⟩ (Go.Proofs.YtlkgmcacbfoijaaGreat.u64 (M3))) bt 60 #[.slice (some ⟨gL, 0, none⟩) l.length l.length, .slice (some ⟨gS, 0, none⟩) l.length l.length, .slice (some ⟨gW, 0, none⟩) l.length l.length] := Blk.far HC2 (show bt ≠ gW from hbtW) _
      have hM3 := hM2.setW hi (M3)
      have hK3 := hK2.setCell (p := ⟨gW, i, none⟩) (fun _ => .inr (.inr rfl)) (Go.Proofs.YtlkgmcacbfoijaaGreat.u64 (M3))
      refine hQ' _ _ HC3 ?_
      clear hQ' Q' fz2 lz2 cz2 hM2 HC2 hK2
      generalize wz2.setCell ⟨gW, i, none⟩ (Go.Proofs.YtlkgmcacbfoijaaGreat.u64 (M3)) = wz3 at *
      refine mix_done ?_
      go_wp2_with fail
      refine bodyPost_end (v := .tuple #[]) (by simp [results, Tryz.results36, go_sem]) rfl ?_
      exact ⟨rfl, by rw [HE.out.1, HE.out.2.1, HE.out.2.2]; exact hM3, hK3⟩
    case true =>
    rw [q1] at HIS
    cases q2 : (x.src == 1)
    case false =>
      have hsb : subB x = false := by unfold subB; rw [q1, q2]; rfl
      have HE : Hid (docV longR (fun k => TL.getD k 0) i x = plusN M1 1 ∧ docV shortR (fun k => TS.getD k 0) i x = plusN M2 1 ∧ docV waysR (fun k => TW.getD k 0) i x = M3) := Lib.hid (by
        rw [docV_cons HNE.out, docV_cons HNE.out, docV_cons HNE.out]
        unfold docS
        rw [if_neg (by rw [hsb]; decide), if_neg (by rw [hsb]; decide), if_neg (by rw [hsb]; decide), ← hMA.1, ← hMA.2.1, ← hMA.2.2]
        refine ⟨rfl, rfl, ?_⟩
        show timesN M3 1 = M3
        rw [timesN_eq, Nat.mul_one, Nat.min_eq_left hm3])
      have HP1 := Lib.hid (fun W => rplus_any (M1) 1 W hm1 one_top)
      have HP2 := Lib.hid (fun W => rplus_any (M2) 1 W hm2 one_top)
      clear hMA hsb
      go_wp2_with fail
      refine (HIS.out _).mono ?_
      rintro e w4 ⟨rfl, hk4⟩
      have hB4 := hk4.blk id HBR.out
      have hM4 := HMR.out.kept hk4 (fun _ h => h.elim)
      have hK4 := (HK1.out.trans HK.out (fun _ _ h => h)).trans hk4 (fun _ _ h => h)
      obtain ⟨g3, o3, hv3, hg3, f0, f1, f2, f3, f4⟩ := (HIN.out w4 hK4).at_ HX.out
      cases hv3
      clear hk4 HB1 HM1 HIN d0 d1 d2 d3 d4
      go_wp2_with fail
      refine wp_region_mix [.w, .l, .w, .w, .l, .w, .w, .l, .w, .w, .k, .w, .k, .w, .w, .k, .w, .k, .w, .k] (by kernel_rfl) (by kernel_rfl) (fun W => Blk W bt 60 #[.slice (some ⟨gL, 0, none⟩) l.length l.length, .slice (some ⟨gS, 0, none⟩) l.length l.length, .slice (some ⟨gW, 0, none⟩) l.length l.length]) ?_
      have HC0 : Blk (w4).drew bt 60 #[.slice (some ⟨gL, 0, none⟩) l.length l.length, .slice (some ⟨gS, 0, none⟩) l.length l.length, .slice (some ⟨gW, 0, none⟩) l.length l.length] := (hB4).drew
      have hM0 := TM.drew (hM4)
      have hK0 : Kept (fun g => g = gL ∨ g = gS ∨ g = gW) w (w4).drew := (Kept.mono (hK4) (fun _ _ h => h.elim)).drew
      generalize (w4).drew = wz0 at *
      refine mix_w1 ?_; go_big_quiet_step (fail); refine wpQuiet_nil ?_
      refine mix_load1 HC0 rfl 58 (.tmp 130) rfl naUs ⟨bt, 0, none⟩ (.slice (some ⟨gL, 0, none⟩) l.length l.length) rfl (fun w' hw' => hw'.cell 0) ?_
      simp only [Act.put, List.setIfInBounds_toArray, List.set_cons_succ, List.set_cons_zero]
      refine mix_w1 ?_; go_big_quiet_step (fail); refine wpQuiet_nil ?_
      refine mix_w1 ?_; go_big_quiet_step (fail); refine wpQuiet_nil ?_
      refine mix_load1 HC0 rfl 58 (.tmp 133) rfl naUs ⟨bt, 1, none⟩ (.slice (some ⟨gS, 0, none⟩) l.length l.length) rfl (fun w' hw' => hw'.cell 1) ?_
      simp only [Act.put, List.setIfInBounds_toArray, List.set_cons_succ, List.set_cons_zero]
      refine mix_w1 ?_; go_big_quiet_step (fail); refine wpQuiet_nil ?_
      refine mix_w1 ?_; go_big_quiet_step (fail); refine wpQuiet_nil ?_
      refine mix_load1 HC0 rfl 58 (.tmp 136) rfl naUs ⟨bt, 2, none⟩ (.slice (some ⟨gW, 0, none⟩) l.length l.length) rfl (fun w' hw' => hw'.cell 2) ?_
      simp only [Act.put, List.setIfInBounds_toArray, List.set_cons_succ, List.set_cons_zero]
      refine mix_w1 ?_; go_big_quiet_step (fail); refine wpQuiet_nil ?_
      refine mix_w1 ?_; go_big_quiet_step (fail); refine wpQuiet_nil ?_
      refine mix_k HC0 fun Q' hQ' => ?_
      go_wp2_with fail
      refine (HP1.out _).mono ?_
      rintro e wy ⟨rfl, rfl⟩
      go_wp2_with fail
      refine hQ' _ _ HC0 ?_
      clear hQ' Q'
      refine mix_w1 ?_; go_big_quiet_step (fail); refine wpQuiet_nil ?_
      refine mix_k HC0 fun Q' hQ' => ?_
      go_wp2_with fail
      refine (HP2.out _).mono ?_
      rintro e wy ⟨rfl, rfl⟩
      go_wp2_with fail
      refine hQ' _ _ HC0 ?_
      clear hQ' Q'
      refine mix_w1 ?_; go_big_quiet_step (fail); refine wpQuiet_nil ?_
      refine mix_w1 ?_; go_big_quiet_step (fail); refine wpQuiet_nil ?_
      have fz0 := Sl.frozen hM0.l i
      have lz0 := Sl.lt hM0.l gL rfl
      have cz0 := Us.cell hM0.l (i := i) (by rw [hM0.ll]; exact hi)
      refine mix_k HC0 fun Q' hQ' => ?_
      go_wp2_with fail
      have HC1 : Blk (wz0.setCell ⟨gL, i, none⟩ (Go.Proofs.YtlkgmcacbfoijaaGreat.u64 (plusN (M1) 1))) bt 60 #[.slice (some ⟨gL, 0, none⟩) l.length l.length, .slice (some ⟨gS, 0, none⟩) l.length l.length, .slice (some ⟨gW, 0, none⟩) l.length l.length] := Blk.far HC0 (show bt ≠ gL from hbtL) _
      have hM1 := hM0.setL hi (plusN (M1) 1)
      have hK1 := hK0.setCell (p := ⟨gL, i, none⟩) (fun _ => .inl rfl) (Go.Proofs.YtlkgmcacbfoijaaGreat.u64 (plusN (M1) 1))
      refine hQ' _ _ HC1 ?_
      clear hQ' Q' fz0 lz0 cz0 hM0 HC0 hK0
      generalize wz0.setCell ⟨gL, i, none⟩ (Go.Proofs.YtlkgmcacbfoijaaGreat.u64 (plusN (M1) 1)) = wz1 at *
      refine mix_w1 ?_; go_big_quiet_step (fail); refine wpQuiet_nil ?_
      have fz1 := Sl.frozen hM1.s i
      have lz1 := Sl.lt hM1.s gS rfl
      have cz1 := Us.cell hM1.s (i := i) (by rw [hM1.ls]; exact hi)
      refine mix_k HC1 fun Q' hQ' => ?_
      go_wp2_with fail
      have HC2 : Blk (wz1.setCell ⟨gS, i, none⟩ (Go.Proofs.YtlkgmcacbfoijaaGreat.u64 (plusN (M2) 1))) bt 60 #[.slice (some ⟨gL, 0, none⟩) l.length l.length, .slice (some ⟨gS, 0, none⟩) l.length l.length, .slice (some ⟨gW, 0, none⟩) l.length l.length] := Blk.far HC1 (show bt ≠ gS from hbtS) _
      have hM2 := hM1.setS hi (plusN (M2) 1)
      have hK2 := hK1.setCell (p := ⟨gS, i, none⟩) (fun _ => .inr (.inl rfl)) (Go.Proofs.YtlkgmcacbfoijaaGreat.u64 (plusN (M2) 1))
      refine hQ' _ _ HC2 ?_
      clear hQ' Q' fz1 lz1 cz1 hM1 HC1 hK1
      generalize wz1.setCell ⟨gS, i, none⟩ (Go.Proofs.YtlkgmcacbfoijaaGreat.u64 (plusN (M2) 1)) = wz2 at *
      refine mix_w1 ?_; go_big_quiet_step (fail); refine wpQuiet_nil ?_
      have fz2 := Sl.frozen hM2.w_ i
      have lz2 := Sl.lt hM2.w_ gW rfl
      have cz2 := Us.cell hM2.w_ (i := i) (by rw [hM2.lw]; exact hi)
      refine mix_k HC2 fun Q' hQ' => ?_
      go_wp2_with fail
      have HC3 : Blk (wz2.setCell ⟨gW, i, none⟩ (Go.Proofs.YtlkgmcacbfoijaaGreat.u64 (M3))) bt 60 #[.slice (some ⟨gL, 0, none⟩) l.length l.length, .slice (some ⟨gS, 0, none⟩) l.length l.length, .slice (some ⟨gW, 0, none⟩) l.length l.length] := Blk.far HC2 (show bt ≠ gW from hbtW) _
      have hM3 := hM2.setW hi (M3)
      have hK3 := hK2.setCell (p := ⟨gW, i, none⟩) (fun _ => .inr (.inr rfl)) (Go.Proofs.YtlkgmcacbfoijaaGreat.u64 (M3))
      refine hQ' _ _ HC3 ?_
      clear hQ' Q' fz2 lz2 cz2 hM2 HC2 hK2
      generalize wz2.setCell ⟨gW, i, none⟩ (Go.Proofs.YtlkgmcacbfoijaaGreat.u64 (M3)) = wz3 at *
      refine mix_done ?_
      go_wp2_with fail
      refine bodyPost_end (v := .tuple #[]) (by simp [results, Tryz.results36, go_sem]) rfl ?_
      exact ⟨rfl, by rw [HE.out.1, HE.out.2.1, HE.out.2.2]; exact hM3, hK3⟩
    case true =>
    have hcb : isCallB x = true := by unfold isCallB; rw [q1, q2]; rfl
    obtain ⟨tn, htn, -, htl, -⟩ := HCO.out hcb
    have hsb : subB x = true := by unfold subB; rw [q1, q2]; rfl
    have htR : toR l.length i x.imm = (tn : Int) := by unfold toR; rw [if_neg (by omega), if_neg (by omega)]; exact htn
    have HTO := Lib.hid (fun W => rto_any (some ⟨g2, o2, none⟩) c l.length i x.imm W (by omega) himm)
    rw [htR] at HTO
    obtain ⟨X1, hX1⟩ : ∃ X, TL.getD tn 0 = X := ⟨_, rfl⟩
    obtain ⟨X2, hX2⟩ : ∃ X, TS.getD tn 0 = X := ⟨_, rfl⟩
    obtain ⟨X3, hX3⟩ : ∃ X, TW.getD tn 0 = X := ⟨_, rfl⟩
    have hx1 : X1 ≤ top := by rw [← hX1]; exact HTL.out tn
    have hx2 : X2 ≤ top := by rw [← hX2]; exact HTS.out tn
    have hx3 : X3 ≤ top := by rw [← hX3]; exact HTW.out tn
    have HE : Hid (docV longR (fun k => TL.getD k 0) i x = plusN (plusN M1 X1) 1 ∧ docV shortR (fun k => TS.getD k 0) i x = plusN (plusN M2 X2) 1 ∧ docV waysR (fun k => TW.getD k 0) i x = timesN M3 X3) := Lib.hid (by
      rw [docV_cons HNE.out, docV_cons HNE.out, docV_cons HNE.out]
      unfold docS
      rw [if_pos hsb, if_pos hsb, if_pos hsb, ← hMA.1, ← hMA.2.1, ← hMA.2.2, htn]
      simp only [Int.toNat_natCast, hX1, hX2, hX3]
      refine ⟨rfl, rfl, ?_⟩
      show timesN (timesN M3 X3) 1 = timesN M3 X3
      rw [timesN_eq (timesN M3 X3), Nat.mul_one, Nat.min_eq_left (timesN_top hm3 hx3)])
    have HA1 := Lib.hid (fun W => rplus_any M1 X1 W hm1 hx1)
    have HA2 := Lib.hid (fun W => rplus_any M2 X2 W hm2 hx2)
    have HA3 := Lib.hid (fun W => rtimes_any M3 X3 W hm3 hx3)
    have HP1 := Lib.hid (fun W => rplus_any (plusN M1 X1) 1 W (plusN_top hm1 hx1) one_top)
    have HP2 := Lib.hid (fun W => rplus_any (plusN M2 X2) 1 W (plusN_top hm2 hx2) one_top)
    have HX1 := Lib.hid hX1
    have HX2 := Lib.hid hX2
    have HX3 := Lib.hid hX3
    clear hMA hsb hcb htn htR hX1 hX2 hX3
    go_wp2_with fail
    refine (HIS.out _).mono ?_
    rintro e w4 ⟨rfl, hk4⟩
    have hB4 := hk4.blk id HBR.out
    have hM4 := HMR.out.kept hk4 (fun _ h => h.elim)
    have hK4 := (HK1.out.trans HK.out (fun _ _ h => h)).trans hk4 (fun _ _ h => h)
    obtain ⟨g3, o3, hv3, hg3, f0, f1, f2, f3, f4⟩ := (HIN.out w4 hK4).at_ HX.out
    cases hv3
    have hcL := Us.cell hM4.l (i := tn) (by omega)
    have hcS := Us.cell hM4.s (i := tn) (by omega)
    have hcW := Us.cell hM4.w_ (i := tn) (by omega)
    rw [HX1.out] at hcL
    rw [HX2.out] at hcS
    rw [HX3.out] at hcW
    have cb0 := hB4.cell 0
    have cb1 := hB4.cell 1
    have cb2 := hB4.cell 2
    clear hk4 HB1 HM1 HIN d0 d1 d2 d3 d4
    go_wp2_with fail
    refine (HTO.out _).mono ?_
    rintro e wy ⟨rfl, rfl⟩
    go_wp2_with fail
    refine wp_region_mix0 [.w, .w, .l, .w, .w, .l, .k, .w, .w, .l, .w, .w, .l, .k, .w, .w, .l, .w, .w, .l, .t, .w, .w, .w] (by kernel_rfl) (by kernel_rfl) ?_
    refine mix_w1 ?_; go_big_quiet_step (fail); refine wpQuiet_nil ?_
    refine mix_w1 ?_; go_big_quiet_step (fail); refine wpQuiet_nil ?_
    refine mix_l1 rfl ?_; go_big_quiet_step (fail); refine wpQuiet_nil ?_
    refine mix_w1 ?_; go_big_quiet_step (fail); refine wpQuiet_nil ?_
    refine mix_w1 ?_; go_big_quiet_step (fail); refine wpQuiet_nil ?_
    refine mix_l1 rfl ?_; go_big_quiet_step (fail); refine wpQuiet_nil ?_
    refine mix_k rfl fun Q' hQ' => ?_
    go_wp2_with fail
    refine (HA1.out _).mono ?_
    rintro e wy ⟨rfl, rfl⟩
    go_wp2_with fail
    refine hQ' _ _ rfl ?_
    clear hQ' Q'
    refine mix_w1 ?_; go_big_quiet_step (fail); refine wpQuiet_nil ?_
    refine mix_w1 ?_; go_big_quiet_step (fail); refine wpQuiet_nil ?_
    refine mix_l1 rfl ?_; go_big_quiet_step (fail); refine wpQuiet_nil ?_
    refine mix_w1 ?_; go_big_quiet_step (fail); refine wpQuiet_nil ?_
    refine mix_w1 ?_; go_big_quiet_step (fail); refine wpQuiet_nil ?_
    refine mix_l1 rfl ?_; go_big_quiet_step (fail); refine wpQuiet_nil ?_
    refine mix_k rfl fun Q' hQ' => ?_
    go_wp2_with fail
    refine (HA2.out _).mono ?_
    rintro e wy ⟨rfl, rfl⟩
    go_wp2_with fail
    refine hQ' _ _ rfl ?_
    clear hQ' Q'
    refine mix_w1 ?_; go_big_quiet_step (fail); refine wpQuiet_nil ?_
    refine mix_w1 ?_; go_big_quiet_step (fail); refine wpQuiet_nil ?_
    refine mix_l1 rfl ?_; go_big_quiet_step (fail); refine wpQuiet_nil ?_
    refine mix_w1 ?_; go_big_quiet_step (fail); refine wpQuiet_nil ?_
    refine mix_w1 ?_; go_big_quiet_step (fail); refine wpQuiet_nil ?_
    refine mix_l1 rfl ?_; go_big_quiet_step (fail); refine wpQuiet_nil ?_
    refine mix_t fun Q' hQ' => ?_
    go_wp2_with fail
    refine (HA3.out _).mono ?_
    rintro e wy ⟨rfl, rfl⟩
    go_wp2_with fail
    refine mix_w1 ?_; go_big_quiet_step (fail); refine wpQuiet_nil ?_
    refine mix_w1 ?_; go_big_quiet_step (fail); refine wpQuiet_nil ?_
    refine mix_w1 ?_; go_big_quiet_step (fail); refine wpQuiet_nil ?_
    refine mix_nil ?_
    go_wp2_with fail
    refine wp_region_mix [.w, .l, .w, .w, .l, .w, .w, .l, .w, .w, .k, .w, .k, .w, .w, .k, .w, .k, .w, .k] (by kernel_rfl) (by kernel_rfl) (fun W => Blk W bt 60 #[.slice (some ⟨gL, 0, none⟩) l.length l.length, .slice (some ⟨gS, 0, none⟩) l.length l.length, .slice (some ⟨gW, 0, none⟩) l.length l.length]) ?_
    have HC0 : Blk (w4.drew).drew bt 60 #[.slice (some ⟨gL, 0, none⟩) l.length l.length, .slice (some ⟨gS, 0, none⟩) l.length l.length, .slice (some ⟨gW, 0, none⟩) l.length l.length] := (hB4.drew).drew
    have hM0 := TM.drew (hM4.drew)
    have hK0 : Kept (fun g => g = gL ∨ g = gS ∨ g = gW) w (w4.drew).drew := (Kept.mono (hK4.drew) (fun _ _ h => h.elim)).drew
    generalize (w4.drew).drew = wz0 at *
    refine mix_w1 ?_; go_big_quiet_step (fail); refine wpQuiet_nil ?_
    refine mix_load1 HC0 rfl 58 (.tmp 130) rfl naUs ⟨bt, 0, none⟩ (.slice (some ⟨gL, 0, none⟩) l.length l.length) rfl (fun w' hw' => hw'.cell 0) ?_
    simp only [Act.put, List.setIfInBounds_toArray, List.set_cons_succ, List.set_cons_zero]
    refine mix_w1 ?_; go_big_quiet_step (fail); refine wpQuiet_nil ?_
    refine mix_w1 ?_; go_big_quiet_step (fail); refine wpQuiet_nil ?_
    refine mix_load1 HC0 rfl 58 (.tmp 133) rfl naUs ⟨bt, 1, none⟩ (.slice (some ⟨gS, 0, none⟩) l.length l.length) rfl (fun w' hw' => hw'.cell 1) ?_
    simp only [Act.put, List.setIfInBounds_toArray, List.set_cons_succ, List.set_cons_zero]
    refine mix_w1 ?_; go_big_quiet_step (fail); refine wpQuiet_nil ?_
    refine mix_w1 ?_; go_big_quiet_step (fail); refine wpQuiet_nil ?_
    refine mix_load1 HC0 rfl 58 (.tmp 136) rfl naUs ⟨bt, 2, none⟩ (.slice (some ⟨gW, 0, none⟩) l.length l.length) rfl (fun w' hw' => hw'.cell 2) ?_
    simp only [Act.put, List.setIfInBounds_toArray, List.set_cons_succ, List.set_cons_zero]
    refine mix_w1 ?_; go_big_quiet_step (fail); refine wpQuiet_nil ?_
    refine mix_w1 ?_; go_big_quiet_step (fail); refine wpQuiet_nil ?_
    refine mix_k HC0 fun Q' hQ' => ?_
    go_wp2_with fail
    refine (HP1.out _).mono ?_
    rintro e wy ⟨rfl, rfl⟩
    go_wp2_with fail
    refine hQ' _ _ HC0 ?_
    clear hQ' Q'
    refine mix_w1 ?_; go_big_quiet_step (fail); refine wpQuiet_nil ?_
    refine mix_k HC0 fun Q' hQ' => ?_
    go_wp2_with fail
    refine (HP2.out _).mono ?_
    rintro e wy ⟨rfl, rfl⟩
    go_wp2_with fail
    refine hQ' _ _ HC0 ?_
    clear hQ' Q'
    refine mix_w1 ?_; go_big_quiet_step (fail); refine wpQuiet_nil ?_
    refine mix_w1 ?_; go_big_quiet_step (fail); refine wpQuiet_nil ?_
    have fz0 := Sl.frozen hM0.l i
    have lz0 := Sl.lt hM0.l gL rfl
    have cz0 := Us.cell hM0.l (i := i) (by rw [hM0.ll]; exact hi)
    refine mix_k HC0 fun Q' hQ' => ?_
    go_wp2_with fail
    have HC1 : Blk (wz0.setCell ⟨gL, i, none⟩ (Go.Proofs.YtlkgmcacbfoijaaGreat.u64 (plusN (plusN M1 X1) 1))) bt 60 #[.slice (some ⟨gL, 0, none⟩) l.length l.length, .slice (some ⟨gS, 0, none⟩) l.length l.length, .slice (some ⟨gW, 0, none⟩) l.length l.length] := Blk.far HC0 (show bt ≠ gL from hbtL) _
    have hM1 := hM0.setL hi (plusN (plusN M1 X1) 1)
    have hK1 := hK0.setCell (p := ⟨gL, i, none⟩) (fun _ => .inl rfl) (Go.Proofs.YtlkgmcacbfoijaaGreat.u64 (plusN (plusN M1 X1) 1))
    refine hQ' _ _ HC1 ?_
    clear hQ' Q' fz0 lz0 cz0 hM0 HC0 hK0
    generalize wz0.setCell ⟨gL, i, none⟩ (Go.Proofs.YtlkgmcacbfoijaaGreat.u64 (plusN (plusN M1 X1) 1)) = wz1 at *
    refine mix_w1 ?_; go_big_quiet_step (fail); refine wpQuiet_nil ?_
    have fz1 := Sl.frozen hM1.s i
    have lz1 := Sl.lt hM1.s gS rfl
    have cz1 := Us.cell hM1.s (i := i) (by rw [hM1.ls]; exact hi)
    refine mix_k HC1 fun Q' hQ' => ?_
    go_wp2_with fail
    have HC2 : Blk (wz1.setCell ⟨gS, i, none⟩ (Go.Proofs.YtlkgmcacbfoijaaGreat.u64 (plusN (plusN M2 X2) 1))) bt 60 #[.slice (some ⟨gL, 0, none⟩) l.length l.length, .slice (some ⟨gS, 0, none⟩) l.length l.length, .slice (some ⟨gW, 0, none⟩) l.length l.length] := Blk.far HC1 (show bt ≠ gS from hbtS) _
    have hM2 := hM1.setS hi (plusN (plusN M2 X2) 1)
    have hK2 := hK1.setCell (p := ⟨gS, i, none⟩) (fun _ => .inr (.inl rfl)) (Go.Proofs.YtlkgmcacbfoijaaGreat.u64 (plusN (plusN M2 X2) 1))
    refine hQ' _ _ HC2 ?_
    clear hQ' Q' fz1 lz1 cz1 hM1 HC1 hK1
    generalize wz1.setCell ⟨gS, i, none⟩ (Go.Proofs.YtlkgmcacbfoijaaGreat.u64 (plusN (plusN M2 X2) 1)) = wz2 at *
    refine mix_w1 ?_; go_big_quiet_step (fail); refine wpQuiet_nil ?_
    have fz2 := Sl.frozen hM2.w_ i
    have lz2 := Sl.lt hM2.w_ gW rfl
    have cz2 := Us.cell hM2.w_ (i := i) (by rw [hM2.lw]; exact hi)
    refine mix_k HC2 fun Q' hQ' => ?_
    go_wp2_with fail
    have HC3 : Blk (wz2.setCell ⟨gW, i, none⟩ (Go.Proofs.YtlkgmcacbfoijaaGreat.u64 (timesN M3 X3))) bt 60 #[.slice (some ⟨gL, 0, none⟩) l.length l.length, .slice (some ⟨gS, 0, none⟩) l.length l.length, .slice (some ⟨gW, 0, none⟩) l.length l.length] := Blk.far HC2 (show bt ≠ gW from hbtW) _
    have hM3 := hM2.setW hi (timesN M3 X3)
    have hK3 := hK2.setCell (p := ⟨gW, i, none⟩) (fun _ => .inr (.inr rfl)) (Go.Proofs.YtlkgmcacbfoijaaGreat.u64 (timesN M3 X3))
    refine hQ' _ _ HC3 ?_
    clear hQ' Q' fz2 lz2 cz2 hM2 HC2 hK2
    generalize wz2.setCell ⟨gW, i, none⟩ (Go.Proofs.YtlkgmcacbfoijaaGreat.u64 (timesN M3 X3)) = wz3 at *
    refine mix_done ?_
    go_wp2_with fail
    refine bodyPost_end (v := .tuple #[]) (by simp [results, Tryz.results36, go_sem]) rfl ?_
    exact ⟨rfl, by rw [HE.out.1, HE.out.2.1, HE.out.2.2]; exact hM3, hK3⟩

end Go.Proofs.YtlkgmcacbfoijaaGreat


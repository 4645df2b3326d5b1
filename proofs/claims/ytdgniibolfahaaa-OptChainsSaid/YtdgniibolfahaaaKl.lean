import Derived.Test.YtdgniibolfahaaaKk
set_option linter.unusedSimpArgs false
set_option linter.unusedVariables false
namespace Go.Proofs.Ytdgniibolfahaaa
open Go.RowKit

/-! ### opt.kept -/
theorem icells_one (x : In) : ∀ u ∈ icells x, u.oneCell' = true := fun y hy => by
  simp only [icells, List.mem_cons, List.not_mem_nil, or_false] at hy
  rcases hy with rfl | rfl | rfl | rfl | rfl <;> rfl
structure KeepOk (l : List In) (S : List Bool) : Prop where
  len : S.length = l.length
  jmp : ∀ (i : Nat) (x : In), l[i]? = some x → S[i]? = some true → (secL l)[i]? = some false → fjB x = true → ∃ n : Nat, (i : Int) + 1 + x.off = n ∧ n ≤ l.length
  nam : ∀ (i : Nat) (x : In), l[i]? = some x → S[i]? = some true → (secL l)[i]? = some false → fjB x = false → isCallB x = true → ∃ n : Nat, (i : Int) + 1 + x.imm = n ∧ n ≤ l.length
set_option maxHeartbeats 16000000 in
set_option maxRecDepth 100000 in
theorem kept_any (l : List In) (a : Option Addr) (c : Nat) (S : List Bool) (bv : Value) (w : World) (h : Ins w (.slice a l.length c) l) (hok : InsOk l) (h4096 : l.length ≤ 4096) (hSv : Bls w bv S) (hKO : KeepOk l S) :
    Calls Try.prog 21 #[.slice a l.length c, bv] w fun e w' => ∃ (g1 g2 : Nat), e = .returned (.tuple #[.slice (some ⟨g1, 0, none⟩) (placeC S l.length) (placeC S l.length), .slice (some ⟨g2, 0, none⟩) (placeC S l.length) (placeC S l.length)]) ∧
      InS w' (.slice (some ⟨g1, 0, none⟩) (placeC S l.length) (placeC S l.length)) (keptG l S l.length) ∧ Ints w' (.slice (some ⟨g2, 0, none⟩) (placeC S l.length) (placeC S l.length)) (outL S l.length) ∧ g1 ≠ g2 ∧ w.heap.size ≤ g1 ∧ w.heap.size ≤ g2 ∧ Kept (fun _ => False) w w' := by
  have hSl := hKO.len
  obtain ⟨bA, bC, hbv⟩ := Sl.any hSv
  rw [List.length_map, hSl] at hbv
  subst hbv
  have HSE := Lib.hid (fun W hI => second_any l a c W hI hok)
  have HIN := Lib.hid (fun (W : World) (hk : Kept (fun _ => False) w W) => h.kept hk)
  have HSV := Lib.hid (fun (W : World) (hk : Kept (fun _ => False) w W) => (Sl.kept hk hSv (fun _ _ h => h) : Bls W (.slice bA l.length bC) S))
  have HOJ := Lib.hid (fun i x W (hx : l[i]? = some x) => ojumps_any x W (hok.at_ hx))
  have HON := Lib.hid (fun x W => onames_any x W)
  have HXO := Lib.hid (fun i x (hx : l[i]? = some x) => hok.at_ hx)
  obtain ⟨j0, hJ0, hJ1, hJ2, hJ3⟩ := info_parts infoI
  obtain ⟨i0, hI0, hI1, hI2, hI3⟩ := info_parts infoIn
  have HKO := Lib.hid hKO
  clear h hok hSv hKO
  go_enter Try.func21, Try.ntmps21
  go_wp2_with (at_make; refine wpList_makeSl (w := w) rfl (.tmp 17) (.tmp 17) 26 rfl (.int .i64 0) rfl Try.underlying26 hJ0 hJ1 hJ2 hJ3 (by omega) (l.length + 1) (by simp [Act.eval]) (by simp [Act.eval]) (by omega) ?_; intro w1 hP1 hk1)
  have hP1' : Ints w1 (.slice (some ⟨w.heap.size, 0, none⟩) (l.length + 1) (l.length + 1)) (List.replicate (l.length + 1) 0) := by
    unfold Ints
    rw [List.map_replicate]
    exact hP1
  clear hP1
  go_loopw [7, 21] (fun nv iv wr => ∃ (i : Nat) (Pl : List Int), iv = .int .i64 i ∧ nv = .int .i64 (placeC S i) ∧ i ≤ l.length ∧ Pl.length = l.length + 1 ∧ (∀ j, j < i → Pl[j]? = some (placeC S j : Int)) ∧ Ints wr (.slice (some ⟨w.heap.size, 0, none⟩) (l.length + 1) (l.length + 1)) Pl ∧ Kept (fun _ => False) w wr) (fun _ iv _ => l.length - (intOf iv).toNat)
  case atStart => exact ⟨0, _, rfl, rfl, by omega, by simp, fun j hj => by omega, hP1', hk1⟩
  case round =>
    clear hP1' hk1
    obtain ⟨i, Pl, rfl, rfl, hi, hPl, hPj, hP, hK⟩ := hrel
    have hog := Sl.lt hP _ rfl
    have hpl := place_le S i
    obtain ⟨pv, hpv⟩ : ∃ pv, Pl[i]? = some pv := ⟨_, List.getElem?_eq_getElem (by omega)⟩
    have p0 := Ints.cell hP hpv
    have pf := Sl.frozen hP i
    have hPS := Ints.set hP (i := i) (by omega) (placeC S i)
    have hKS : Kept (fun _ => False) w (wr.setCell ⟨w.heap.size, i, none⟩ (.int .i64 (placeC S i))) := hK.setCell (fun h => by simp at h) _
    have hPj2 : ∀ j, j < i + 1 → (Pl.set i (placeC S i))[j]? = some (placeC S j : Int) := fun j hj => by
      rw [List.getElem?_set]
      by_cases e : i = j
      · subst e
        rw [if_pos rfl, if_pos (by omega)]
      · rw [if_neg e]
        exact hPj j (by omega)
    have HPJ := Lib.hid hPj2
    clear hPj hPj2 hpv
    by_cases hlt : i < l.length
    case pos =>
      obtain ⟨b, hb⟩ : ∃ b, S[i]? = some b := ⟨_, List.getElem?_eq_getElem (by omega)⟩
      have hps := place_succ hb
      obtain ⟨sg, sc, hsv, hsg, d0⟩ := Bls.at_ (HSV.out _ hKS) hb
      rw [hSl] at hsv
      obtain ⟨rfl, -, rfl⟩ := Value.slice.inj hsv
      have HPS := Lib.hid hps
      clear hb hps hsv
      cases b
      all_goals
        have hps := HPS.out
        simp only [Bool.false_eq_true, if_false, if_true, Nat.add_zero] at hps
        have HPS2 := Lib.hid hps
        clear hps HPS
        go_wp2_with fail
        go_roundw
        case rel => exact ⟨i + 1, _, by go_num, by (rw [HPS2.out]; try go_num), by omega, by rw [List.length_set]; exact hPl, HPJ.out, hPS, hKS⟩
        case measure => simp [intOf] <;> omega
    case neg =>
      obtain rfl : i = l.length := by omega
      have hnd : decide ((l.length : Int) < l.length) = false := decide_eq_false (by omega)
      clear hlt hi hP hK
      have hPL : ∀ j, j ≤ l.length → (Pl.set l.length (placeC S l.length))[j]? = some (placeC S j : Int) := fun j hj => HPJ.out j (by omega)
      have hPll : (Pl.set l.length (placeC S l.length : Int)).length = l.length + 1 := by rw [List.length_set]; exact hPl
      generalize hPP : Pl.set l.length (placeC S l.length : Int) = PP at *
      have HPL := Lib.hid hPL
      clear hPL HPJ hPP hPl
      generalize hW1 : wr.setCell ⟨w.heap.size, l.length, none⟩ (.int .i64 (placeC S l.length)) = W1 at *
      go_upto_region 11 with fail
      clear hW1 p0 pf hog hnd
      generalize hN : placeC S l.length = N at *
      have HN := Lib.hid hN
      clear hN
      go_cut [9, 10] (fun ov nv wx => ∃ g1 g2 : Nat, ov = .slice (some ⟨g1, 0, none⟩) 0 N ∧ nv = .slice (some ⟨g2, 0, none⟩) 0 N ∧ Sl wx 37 5 (.slice (some ⟨g1, 0, none⟩) 0 N) [] ∧ Sl wx 3 1 (.slice (some ⟨g2, 0, none⟩) 0 N) [] ∧ g1 ≠ g2 ∧ W1.heap.size ≤ g1 ∧ W1.heap.size ≤ g2 ∧ Kept (fun _ => False) W1 wx)
      case first =>
        refine wp_region_tree [.w, .k, .w, .k, .w, .w] (fun _ => True) [true, true, true, true, true, true] (by kernel_rfl) (by kernel_rfl) (by kernel_rfl) ?_
        refine tree_fork2 [true, true, false, false, false, false] [false, false, true, true, true, true] [false, false, true, true, false, false] [true, true, false, false, true, true] (by kernel_rfl) ?_ ?_
        · simp only [keep]
          repeat (refine mix_w1 ?_; go_big_quiet_step (fail); refine wpQuiet_nil ?_)
          refine mix_k trivial fun Q' hQ' => ?_
          refine wpList_makeRoom rfl _ _ _ rfl (.agg #[.int .u8 0, .int .u8 0, .int .u8 0, .int .i16 0, .int .i32 0]) 5 Try.underlying22 hI0 hI1 hI2 hI3 (by omega) N rfl rfl (by omega) ?_
          intro w2 hA2 hk2
          refine hQ' _ _ trivial ?_
          clear hQ' Q'
          refine mix_done ?_
          try simp only [Act.put, List.setIfInBounds_toArray, List.set_cons_succ, List.set_cons_zero]
          refine tree_fork1 [false, false, true, true, false, false] [false, false, false, false, true, true] (by kernel_rfl) ?_
          simp only [keep]
          repeat (refine mix_w1 ?_; go_big_quiet_step (fail); refine wpQuiet_nil ?_)
          refine mix_k trivial fun Q' hQ' => ?_
          refine wpList_makeRoom rfl _ _ _ rfl (.int .i64 0) 1 Try.underlying26 hJ0 hJ1 hJ2 hJ3 (by omega) N rfl rfl (by omega) ?_
          intro w3 hB3 hk3
          refine hQ' _ _ trivial ?_
          clear hQ' Q'
          refine mix_done ?_
          try simp only [Act.put, List.setIfInBounds_toArray, List.set_cons_succ, List.set_cons_zero]
          refine tree_last (by kernel_rfl) ?_
          simp only [keep]
          repeat (refine mix_w1 ?_; go_big_quiet_step (fail); refine wpQuiet_nil ?_)
          refine mix_done ?_
          go_wp2_with fail
          go_meet
          exact ⟨_, _, rfl, rfl, Sl.kept hk3 hA2 (fun _ _ h => h), hB3, by have h1 : W1.heap.size < w2.heap.size := Sl.lt hA2 _ rfl; have h2 := hk2.size; simp at h2 ⊢; omega, by simp, by have h2 := hk2.size; simp at h2 ⊢; omega, (Kept.refl _ W1).drew.trans hk2 (fun _ _ h => h) |>.trans hk3 (fun _ _ h => h)⟩
        · simp only [keep]
          repeat (refine mix_w1 ?_; go_big_quiet_step (fail); refine wpQuiet_nil ?_)
          refine mix_k trivial fun Q' hQ' => ?_
          refine wpList_makeRoom rfl _ _ _ rfl (.int .i64 0) 1 Try.underlying26 hJ0 hJ1 hJ2 hJ3 (by omega) N rfl rfl (by omega) ?_
          intro w2 hB2 hk2
          refine hQ' _ _ trivial ?_
          clear hQ' Q'
          refine mix_done ?_
          try simp only [Act.put, List.setIfInBounds_toArray, List.set_cons_succ, List.set_cons_zero]
          refine tree_fork1 [true, true, false, false, false, false] [false, false, false, false, true, true] (by kernel_rfl) ?_
          simp only [keep]
          repeat (refine mix_w1 ?_; go_big_quiet_step (fail); refine wpQuiet_nil ?_)
          refine mix_k trivial fun Q' hQ' => ?_
          refine wpList_makeRoom rfl _ _ _ rfl (.agg #[.int .u8 0, .int .u8 0, .int .u8 0, .int .i16 0, .int .i32 0]) 5 Try.underlying22 hI0 hI1 hI2 hI3 (by omega) N rfl rfl (by omega) ?_
          intro w3 hA3 hk3
          refine hQ' _ _ trivial ?_
          clear hQ' Q'
          refine mix_done ?_
          try simp only [Act.put, List.setIfInBounds_toArray, List.set_cons_succ, List.set_cons_zero]
          refine tree_last (by kernel_rfl) ?_
          simp only [keep]
          repeat (refine mix_w1 ?_; go_big_quiet_step (fail); refine wpQuiet_nil ?_)
          refine mix_done ?_
          go_wp2_with fail
          go_meet
          exact ⟨_, _, rfl, rfl, hA3, Sl.kept hk3 hB2 (fun _ _ h => h), by have h1 : W1.heap.size < w2.heap.size := Sl.lt hB2 _ rfl; have h2 := hk2.size; simp at h2 ⊢; omega, by have h2 := hk2.size; simp at h2 ⊢; omega, by simp, (Kept.refl _ W1).drew.trans hk2 (fun _ _ h => h) |>.trans hk3 (fun _ _ h => h)⟩
      case rest =>
      obtain ⟨g1, g2, rfl, rfl, hA, hB, hg12, hg1, hg2, hkc⟩ := hcut
      have hKc := hKS.trans hkc (fun _ _ h => h)
      have hPc := Sl.kept hkc hPS (fun _ _ h => h)
      have hg0 : w.heap.size < W1.heap.size := Sl.lt hPS _ rfl
      have hg1c : g1 < wc.heap.size := Sl.lt hA _ rfl
      have hg2c : g2 < wc.heap.size := Sl.lt hB _ rfl
      clear hPS hKS
      go_wp2_with fail
      refine (HSE.out _ (HIN.out _ hKc)).mono ?_
      rintro e w2 ⟨sv, rfl, hS, hk2, hsv⟩
      obtain ⟨sA, sC, hsvv⟩ := Sl.any hS
      rw [List.length_map, sec_len] at hsvv
      subst hsvv
      have hK2 := hKc.trans hk2 (fun _ _ h => h)
      have hA2 : InS w2 (.slice (some ⟨g1, 0, none⟩) 0 N) (keptG l S 0) := Sl.kept hk2 hA (fun _ _ h => h)
      have hB2 : Ints w2 (.slice (some ⟨g2, 0, none⟩) 0 N) (outL S 0) := Sl.kept hk2 hB (fun _ _ h => h)
      have hP2 := Sl.kept hk2 hPc (fun _ _ h => h)
      have hg01 : w.heap.size ≠ g1 := by omega
      have hg02 : w.heap.size ≠ g2 := by omega
      clear hA hB hPc hkc hk2 HSE
      go_wp2_with fail
      go_loopw [9, 10, 48] (fun ov nv iv wr => ∃ i : Nat, iv = .int .i64 i ∧ i ≤ l.length ∧ ov = .slice (some ⟨g1, 0, none⟩) (placeC S i) N ∧ nv = .slice (some ⟨g2, 0, none⟩) (placeC S i) N ∧ InS wr (.slice (some ⟨g1, 0, none⟩) (placeC S i) N) (keptG l S i) ∧ Ints wr (.slice (some ⟨g2, 0, none⟩) (placeC S i) N) (outL S i) ∧ Ints wr (.slice (some ⟨w.heap.size, 0, none⟩) (l.length + 1) (l.length + 1)) PP ∧ Bls wr (.slice sA l.length sC) (secL l) ∧ Kept (fun _ => False) w wr) (fun _ _ iv _ => l.length - (intOf iv).toNat)
      case atStart => exact ⟨0, rfl, by omega, rfl, rfl, hA2, hB2, hP2, hS, hK2⟩
      case round =>
        clear hA2 hB2 hP2 hS hK2
        obtain ⟨i, rfl, hi, rfl, rfl, hA, hB, hP, hS, hK⟩ := hrel
        by_cases hlt : i < l.length
        case neg =>
          obtain rfl : i = l.length := by omega
          rw [HN.out] at hA hB ⊢
          have hnd : decide ((l.length : Int) < l.length) = false := decide_eq_false (by omega)
          have hc1 := cut3N g1 N N N (Nat.le_refl _)
          have hc2 := cut3I g2 N N N (Nat.le_refl _)
          clear hlt hi
          go_upto_region 26 with fail
          refine wp_region_mix0 [.w, .w, .w, .w, .w, .w, .w, .w, .t, .t] (by kernel_rfl) (by kernel_rfl) ?_
          repeat (refine mix_w1 ?_; go_big_quiet_step (fail); refine wpQuiet_nil ?_)
          repeat (refine mix_t fun Q' hQ' => ?_; go_wp2)
          refine mix_nil ?_
          go_wp2_with fail
          go_ret2
          refine ⟨g1, g2, by (rw [HN.out]; try rfl), by (rw [HN.out]; exact hA.drew), by (rw [HN.out]; exact hB.drew), hg12, by omega, by omega, by repeat (first | exact hK | refine Kept.drew ?_)⟩
        case pos =>
        have hpl := place_le S i
        obtain ⟨x, hx⟩ : ∃ x, l[i]? = some x := ⟨_, List.getElem?_eq_getElem hlt⟩
        obtain ⟨b, hb⟩ := sec_get hlt
        obtain ⟨s, hs⟩ : ∃ s, S[i]? = some s := ⟨_, List.getElem?_eq_getElem (by omega)⟩
        obtain ⟨bg, bc, hbv, hbg, b0⟩ := Bls.at_ (HSV.out _ hK) hs
        rw [hSl] at hbv
        obtain ⟨rfl, -, rfl⟩ := Value.slice.inj hbv
        obtain ⟨sg, sc, hsv2, hsgl, d0⟩ := Bls.at_ hS hb
        rw [sec_len] at hsv2
        obtain ⟨rfl, -, rfl⟩ := Value.slice.inj hsv2
        have hsg : wc.heap.size ≤ sg := hsv sg rfl
        have hsg1 : sg ≠ g1 := by omega
        have hsg2 : sg ≠ g2 := by omega
        have hps := place_succ hs
        have hks := kept_succ hx hs
        have hos := out_succ S i s hs
        have hml := (kept_len (l := l) (S := S) i (by omega) (by omega)).1
        have hmono := place_mono S (i := i + 1) (j := l.length) (by omega)
        rw [HN.out] at hmono
        have hlo : w.heap.size < wr.heap.size := Sl.lt hP _ rfl
        have hg1r : g1 < wr.heap.size := Sl.lt hA _ rfl
        have hg2r : g2 < wr.heap.size := Sl.lt hB _ rfl
        cases s
        case false =>
          simp only [Bool.false_eq_true, if_false, Nat.add_zero, List.append_nil] at hps hks hos
          rw [← hks] at hA
          rw [← hos] at hB
          have HPS4 := Lib.hid hps
          have hA' := hA
          rw [← hps] at hA hB
          clear hps hks hos hmono hx hb hs hbv hsv2 hA'
          go_wp2_with fail
          go_roundw
          case rel => exact ⟨i + 1, by go_num, by omega, by rw [HPS4.out], by rw [HPS4.out], hA, hB, hP, hS, hK⟩
          case measure => simp [intOf] <;> omega
        case true =>
        simp only [if_true] at hps hks hos
        have hroom : placeC S i < N := by omega
        have HPS3 := Lib.hid hps
        have HKS2 := Lib.hid hks
        have HOS := Lib.hid hos
        have HB := Lib.hid hb
        have p0 := Ints.cell hP (HPL.out i (by omega))
        obtain ⟨lg, lo, rfl, hlg, c0, c1, c2, c3, c4⟩ := (HIN.out _ hK).at_ hx
        have hxo := HXO.out i x hx
        have hoff := hxo.off
        have him := hxo.imm
        have HJX := Lib.hid (fun W => HOJ.out i x W hx)
        have HNX := Lib.hid (fun W => HON.out x W)
        have HJMP := Lib.hid (fun hb hj => HKO.out.jmp i x hx hs hb hj)
        have HNAM := Lib.hid (fun hb hj hc => HKO.out.nam i x hx hs hb hj hc)
        have hfix : fixC l S i x = if b = true then x else if fjB x = true then { x with off := (placeC S ((i : Int) + 1 + x.off).toNat : Int) - ((placeC S i : Int) + 1) } else if isCallB x = true then { x with imm := (placeC S ((i : Int) + 1 + x.imm).toNat : Int) - ((placeC S i : Int) + 1) } else x := by
          unfold fixC
          rw [hb]
          cases b <;> simp
        have HFX := Lib.hid hfix
        have hBn := Blk.new wr 37 (inVals x)
        have hkn : Kept (fun _ => False) wr (wr.alloc (.cells (inVals x) 37)) := (Kept.refl _ wr).alloc _
        clear hps hks hos hmono hx hb hs hbv hsv2 hfix HKO HOJ HON HXO hxo
        cases b
        case true =>
          have hfx := HFX.out
          simp only [if_true] at hfx
          have hks2 := HKS2.out
          rw [hfx] at hks2
          have HKS2 := Lib.hid hks2
          clear hfx hks2 HFX
          have hKW := hK.trans hkn (fun _ _ h => h)
          have hA1 : InS (wr.alloc (.cells (inVals x) 37)) (.slice (some ⟨g1, 0, none⟩) (placeC S i) N) (keptG l S i) := Sl.kept hkn hA (fun _ _ h => h)
          have hB1 : Ints (wr.alloc (.cells (inVals x) 37)) (.slice (some ⟨g2, 0, none⟩) (placeC S i) N) (outL S i) := Sl.kept hkn hB (fun _ _ h => h)
          have hP1 : Ints (wr.alloc (.cells (inVals x) 37)) (.slice (some ⟨w.heap.size, 0, none⟩) (l.length + 1) (l.length + 1)) PP := Sl.kept hkn hP (fun _ _ h => h)
          have hS1 : Bls (wr.alloc (.cells (inVals x) 37)) (.slice (some ⟨sg, 0, none⟩) l.length sC) (secL l) := Sl.kept hkn hS (fun _ _ h => h)
          have hW1 := hkn.size
          have y0 := hBn.cell 0
          have y1 := hBn.cell 1
          have y2 := hBn.cell 2
          have y3 := hBn.cell 3
          have y4 := hBn.cell 4
          go_wp2_with (first
            | (at_builtin; refine wpList_pushFit (w := (wr.alloc (.cells (inVals x) 37))) rfl (.tmp 102) (.tmp 104) 22 rfl Try.underlying22 hI0 hI2 g1 (placeC S i) N (wr.heap.size + 1) ((keptG l S i).map icells) (icells x) rfl rfl (by show _ = (Array.push _ _).size; rw [Array.size_push]) hA1 rfl (icells_one x) hroom ?_; intro w7 hA7 hk7; have hB7 := Sl.kept hk7 hB1 (fun g hg e => hg12 (by have e2 : g2 = g := Option.some.inj hg; omega)))
            | (at_builtin; refine wpList_pushFit (w := w7) rfl (.tmp 106) (.tmp 108) 26 rfl Try.underlying26 hJ0 hJ2 g2 (placeC S i) N w7.heap.size ((outL S i).map icell') (icell' i) rfl rfl rfl hB7 rfl (fun u hu => by rw [List.mem_singleton.1 hu]; rfl) hroom ?_; intro w8 hB8 hk8))
          have hA8 : InS w8 (.slice (some ⟨g1, 0, none⟩) (placeC S i + 1) N) (keptG l S i ++ [x]) := by
            have := Sl.kept hk8 hA7 (fun g hg e => hg12 (by have e2 : g1 = g := Option.some.inj hg; omega))
            unfold InS
            rw [List.map_append]
            exact this
          have hB8' : Ints w8 (.slice (some ⟨g2, 0, none⟩) (placeC S i + 1) N) (outL S i ++ [(i : Int)]) := by
            unfold Ints
            rw [List.map_append]
            exact hB8
          have hP8 := Sl.kept hk8 (Sl.kept hk7 hP1 (fun g hg e => hg01 (by have e2 : w.heap.size = g := Option.some.inj hg; omega))) (fun g hg e => hg02 (by have e2 : w.heap.size = g := Option.some.inj hg; omega))
          have hS8 := Sl.kept hk8 (Sl.kept hk7 hS1 (fun g hg e => hsg1 (by have e2 : sg = g := Option.some.inj hg; omega))) (fun g hg e => hsg2 (by have e2 : sg = g := Option.some.inj hg; omega))
          have hK8 : Kept (fun _ => False) w w8 := (hKW.trans hk7 (fun k hk e => by omega)).trans hk8 (fun k hk e => by omega)
          have hks := HKS2.out
          have hos := HOS.out
          rw [← HPS3.out] at hA8 hB8'
          rw [← hks] at hA8
          rw [← hos] at hB8'
          have hps3 := HPS3.out
          have HPS4 := Lib.hid hps3
          clear hps3 hks hos
          go_roundw
          case rel => exact ⟨i + 1, by go_num, by omega, by (rw [HPS4.out]; try go_num), by (rw [HPS4.out]; try go_num), hA8, hB8', hP8, hS8, hK8⟩
          case measure => simp [intOf] <;> omega
        case false =>
        cases hj : fjB x
        case true =>
          obtain ⟨n, hn, hnl⟩ := HJMP.out (by trivial) hj
          have hfx := HFX.out
          rw [hn, Int.toNat_natCast] at hfx
          simp only [Bool.false_eq_true, if_false, hj, if_true] at hfx
          rw [hj] at HJX
          have pn := place_le S n
          have HN1 := Lib.hid hn
          have hPn := HPL.out n hnl
          have hks2 := HKS2.out
          rw [hfx] at hks2
          have HKS2 := Lib.hid hks2
          clear hfx hks2 HFX hj hn
          go_wp2_with fail
          refine (HJX.out _).mono ?_
          rintro e w5 ⟨rfl, hk5⟩
          have hk5' := hkn.trans hk5 (fun _ _ h => h)
          have hb5 := hk5.blk (fun h => h) hBn
          have x3 := hb5.cell 3
          have fr3 := hb5.frozen 3
          have hlt5 := hb5.lt
          have q0 := Ints.cell (Sl.kept hk5' hP (fun _ _ h => h)) hPn
          have hn := HN1.out
          have hk6 : Kept (fun _ => False) wr (w5.setCell ⟨wr.heap.size, 3, none⟩ (.int .i16 ((placeC S n : Int) - ((placeC S i : Int) + 1)))) := hk5'.setCell (fun h => by simp at h) _
          have hb6 : Blk (w5.setCell ⟨wr.heap.size, 3, none⟩ (.int .i16 ((placeC S n : Int) - ((placeC S i : Int) + 1)))) wr.heap.size 37 (inVals { x with off := (placeC S n : Int) - ((placeC S i : Int) + 1) }) := hb5.set_ 3 _
          clear c0 c1 c2 c3 c4 d0 b0 p0 hPn
          have hKW := hK.trans hk6 (fun _ _ h => h)
          have hA1 : InS (w5.setCell ⟨wr.heap.size, 3, none⟩ (.int .i16 ((placeC S n : Int) - ((placeC S i : Int) + 1)))) (.slice (some ⟨g1, 0, none⟩) (placeC S i) N) (keptG l S i) := Sl.kept hk6 hA (fun _ _ h => h)
          have hB1 : Ints (w5.setCell ⟨wr.heap.size, 3, none⟩ (.int .i16 ((placeC S n : Int) - ((placeC S i : Int) + 1)))) (.slice (some ⟨g2, 0, none⟩) (placeC S i) N) (outL S i) := Sl.kept hk6 hB (fun _ _ h => h)
          have hP1 : Ints (w5.setCell ⟨wr.heap.size, 3, none⟩ (.int .i16 ((placeC S n : Int) - ((placeC S i : Int) + 1)))) (.slice (some ⟨w.heap.size, 0, none⟩) (l.length + 1) (l.length + 1)) PP := Sl.kept hk6 hP (fun _ _ h => h)
          have hS1 : Bls (w5.setCell ⟨wr.heap.size, 3, none⟩ (.int .i16 ((placeC S n : Int) - ((placeC S i : Int) + 1)))) (.slice (some ⟨sg, 0, none⟩) l.length sC) (secL l) := Sl.kept hk6 hS (fun _ _ h => h)
          have hW1 := hk6.size
          have y0 := hb6.cell 0
          have y1 := hb6.cell 1
          have y2 := hb6.cell 2
          have y3 := hb6.cell 3
          have y4 := hb6.cell 4
          go_wp2_with (first
            | (at_builtin; refine wpList_pushFit (w := (w5.setCell ⟨wr.heap.size, 3, none⟩ (.int .i16 ((placeC S n : Int) - ((placeC S i : Int) + 1))))) rfl (.tmp 102) (.tmp 104) 22 rfl Try.underlying22 hI0 hI2 g1 (placeC S i) N (w5.heap.size) ((keptG l S i).map icells) (icells { x with off := (placeC S n : Int) - ((placeC S i : Int) + 1) }) rfl rfl (by simp [World.setCell]) hA1 rfl (icells_one { x with off := (placeC S n : Int) - ((placeC S i : Int) + 1) }) hroom ?_; intro w7 hA7 hk7; have hB7 := Sl.kept hk7 hB1 (fun g hg e => hg12 (by have e2 : g2 = g := Option.some.inj hg; omega)))
            | (at_builtin; refine wpList_pushFit (w := w7) rfl (.tmp 106) (.tmp 108) 26 rfl Try.underlying26 hJ0 hJ2 g2 (placeC S i) N w7.heap.size ((outL S i).map icell') (icell' i) rfl rfl rfl hB7 rfl (fun u hu => by rw [List.mem_singleton.1 hu]; rfl) hroom ?_; intro w8 hB8 hk8))
          have hA8 : InS w8 (.slice (some ⟨g1, 0, none⟩) (placeC S i + 1) N) (keptG l S i ++ [{ x with off := (placeC S n : Int) - ((placeC S i : Int) + 1) }]) := by
            have := Sl.kept hk8 hA7 (fun g hg e => hg12 (by have e2 : g1 = g := Option.some.inj hg; omega))
            unfold InS
            rw [List.map_append]
            exact this
          have hB8' : Ints w8 (.slice (some ⟨g2, 0, none⟩) (placeC S i + 1) N) (outL S i ++ [(i : Int)]) := by
            unfold Ints
            rw [List.map_append]
            exact hB8
          have hP8 := Sl.kept hk8 (Sl.kept hk7 hP1 (fun g hg e => hg01 (by have e2 : w.heap.size = g := Option.some.inj hg; omega))) (fun g hg e => hg02 (by have e2 : w.heap.size = g := Option.some.inj hg; omega))
          have hS8 := Sl.kept hk8 (Sl.kept hk7 hS1 (fun g hg e => hsg1 (by have e2 : sg = g := Option.some.inj hg; omega))) (fun g hg e => hsg2 (by have e2 : sg = g := Option.some.inj hg; omega))
          have hK8 : Kept (fun _ => False) w w8 := (hKW.trans hk7 (fun k hk e => by omega)).trans hk8 (fun k hk e => by omega)
          have hks := HKS2.out
          have hos := HOS.out
          rw [← HPS3.out] at hA8 hB8'
          rw [← hks] at hA8
          rw [← hos] at hB8'
          have hps3 := HPS3.out
          have HPS4 := Lib.hid hps3
          clear hps3 hks hos
          go_roundw
          case rel => exact ⟨i + 1, by go_num, by omega, by (rw [HPS4.out]; try go_num), by (rw [HPS4.out]; try go_num), hA8, hB8', hP8, hS8, hK8⟩
          case measure => simp [intOf] <;> omega
        case false =>
        rw [hj] at HJX
        cases hc : isCallB x
        case true =>
          obtain ⟨n, hn, hnl⟩ := HNAM.out (by trivial) hj hc
          have hfx := HFX.out
          rw [hn, Int.toNat_natCast] at hfx
          simp only [Bool.false_eq_true, if_false, hj, hc, if_true] at hfx
          rw [hc] at HNX
          have pn := place_le S n
          have HN1 := Lib.hid hn
          have hPn := HPL.out n hnl
          have hks2 := HKS2.out
          rw [hfx] at hks2
          have HKS2 := Lib.hid hks2
          clear hfx hks2 HFX hj hc hn
          go_wp2_with fail
          refine (HJX.out _).mono ?_
          rintro e w4 ⟨rfl, hk4⟩
          have hk4' := hkn.trans hk4 (fun _ _ h => h)
          have hb4 := hk4.blk (fun h => h) hBn
          have x0 := hb4.cell 0
          have x1 := hb4.cell 1
          have x2 := hb4.cell 2
          have x3 := hb4.cell 3
          have x4 := hb4.cell 4
          clear c0 c1 c2 c3 c4 d0 b0 p0
          go_wp2_with fail
          refine (HNX.out _).mono ?_
          rintro e w5 ⟨rfl, hk5⟩
          have hk5' := hk4'.trans hk5 (fun _ _ h => h)
          have hb5 := hk5.blk (fun h => h) hb4
          clear x0 x1 x2 x3 x4
          have x4 := hb5.cell 4
          have fr4 := hb5.frozen 4
          have hlt5 := hb5.lt
          have q0 := Ints.cell (Sl.kept hk5' hP (fun _ _ h => h)) hPn
          have hn := HN1.out
          have hk6 : Kept (fun _ => False) wr (w5.setCell ⟨wr.heap.size, 4, none⟩ (.int .i32 ((placeC S n : Int) - ((placeC S i : Int) + 1)))) := hk5'.setCell (fun h => by simp at h) _
          have hb6 : Blk (w5.setCell ⟨wr.heap.size, 4, none⟩ (.int .i32 ((placeC S n : Int) - ((placeC S i : Int) + 1)))) wr.heap.size 37 (inVals { x with imm := (placeC S n : Int) - ((placeC S i : Int) + 1) }) := hb5.set_ 4 _
          clear hPn
          have hKW := hK.trans hk6 (fun _ _ h => h)
          have hA1 : InS (w5.setCell ⟨wr.heap.size, 4, none⟩ (.int .i32 ((placeC S n : Int) - ((placeC S i : Int) + 1)))) (.slice (some ⟨g1, 0, none⟩) (placeC S i) N) (keptG l S i) := Sl.kept hk6 hA (fun _ _ h => h)
          have hB1 : Ints (w5.setCell ⟨wr.heap.size, 4, none⟩ (.int .i32 ((placeC S n : Int) - ((placeC S i : Int) + 1)))) (.slice (some ⟨g2, 0, none⟩) (placeC S i) N) (outL S i) := Sl.kept hk6 hB (fun _ _ h => h)
          have hP1 : Ints (w5.setCell ⟨wr.heap.size, 4, none⟩ (.int .i32 ((placeC S n : Int) - ((placeC S i : Int) + 1)))) (.slice (some ⟨w.heap.size, 0, none⟩) (l.length + 1) (l.length + 1)) PP := Sl.kept hk6 hP (fun _ _ h => h)
          have hS1 : Bls (w5.setCell ⟨wr.heap.size, 4, none⟩ (.int .i32 ((placeC S n : Int) - ((placeC S i : Int) + 1)))) (.slice (some ⟨sg, 0, none⟩) l.length sC) (secL l) := Sl.kept hk6 hS (fun _ _ h => h)
          have hW1 := hk6.size
          have y0 := hb6.cell 0
          have y1 := hb6.cell 1
          have y2 := hb6.cell 2
          have y3 := hb6.cell 3
          have y4 := hb6.cell 4
          go_wp2_with (first
            | (at_builtin; refine wpList_pushFit (w := (w5.setCell ⟨wr.heap.size, 4, none⟩ (.int .i32 ((placeC S n : Int) - ((placeC S i : Int) + 1))))) rfl (.tmp 102) (.tmp 104) 22 rfl Try.underlying22 hI0 hI2 g1 (placeC S i) N (w5.heap.size) ((keptG l S i).map icells) (icells { x with imm := (placeC S n : Int) - ((placeC S i : Int) + 1) }) rfl rfl (by simp [World.setCell]) hA1 rfl (icells_one { x with imm := (placeC S n : Int) - ((placeC S i : Int) + 1) }) hroom ?_; intro w7 hA7 hk7; have hB7 := Sl.kept hk7 hB1 (fun g hg e => hg12 (by have e2 : g2 = g := Option.some.inj hg; omega)))
            | (at_builtin; refine wpList_pushFit (w := w7) rfl (.tmp 106) (.tmp 108) 26 rfl Try.underlying26 hJ0 hJ2 g2 (placeC S i) N w7.heap.size ((outL S i).map icell') (icell' i) rfl rfl rfl hB7 rfl (fun u hu => by rw [List.mem_singleton.1 hu]; rfl) hroom ?_; intro w8 hB8 hk8))
          have hA8 : InS w8 (.slice (some ⟨g1, 0, none⟩) (placeC S i + 1) N) (keptG l S i ++ [{ x with imm := (placeC S n : Int) - ((placeC S i : Int) + 1) }]) := by
            have := Sl.kept hk8 hA7 (fun g hg e => hg12 (by have e2 : g1 = g := Option.some.inj hg; omega))
            unfold InS
            rw [List.map_append]
            exact this
          have hB8' : Ints w8 (.slice (some ⟨g2, 0, none⟩) (placeC S i + 1) N) (outL S i ++ [(i : Int)]) := by
            unfold Ints
            rw [List.map_append]
            exact hB8
          have hP8 := Sl.kept hk8 (Sl.kept hk7 hP1 (fun g hg e => hg01 (by have e2 : w.heap.size = g := Option.some.inj hg; omega))) (fun g hg e => hg02 (by have e2 : w.heap.size = g := Option.some.inj hg; omega))
          have hS8 := Sl.kept hk8 (Sl.kept hk7 hS1 (fun g hg e => hsg1 (by have e2 : sg = g := Option.some.inj hg; omega))) (fun g hg e => hsg2 (by have e2 : sg = g := Option.some.inj hg; omega))
          have hK8 : Kept (fun _ => False) w w8 := (hKW.trans hk7 (fun k hk e => by omega)).trans hk8 (fun k hk e => by omega)
          have hks := HKS2.out
          have hos := HOS.out
          rw [← HPS3.out] at hA8 hB8'
          rw [← hks] at hA8
          rw [← hos] at hB8'
          have hps3 := HPS3.out
          have HPS4 := Lib.hid hps3
          clear hps3 hks hos
          go_roundw
          case rel => exact ⟨i + 1, by go_num, by omega, by (rw [HPS4.out]; try go_num), by (rw [HPS4.out]; try go_num), hA8, hB8', hP8, hS8, hK8⟩
          case measure => simp [intOf] <;> omega
        case false =>
          have hfx := HFX.out
          simp only [Bool.false_eq_true, if_false, hj, hc] at hfx
          rw [hc] at HNX
          have hks2 := HKS2.out
          rw [hfx] at hks2
          have HKS2 := Lib.hid hks2
          clear hfx hks2 HFX hj hc
          go_wp2_with fail
          refine (HJX.out _).mono ?_
          rintro e w4 ⟨rfl, hk4⟩
          have hk4' := hkn.trans hk4 (fun _ _ h => h)
          have hb4 := hk4.blk (fun h => h) hBn
          have x0 := hb4.cell 0
          have x1 := hb4.cell 1
          have x2 := hb4.cell 2
          have x3 := hb4.cell 3
          have x4 := hb4.cell 4
          clear c0 c1 c2 c3 c4 d0 b0 p0
          go_wp2_with fail
          refine (HNX.out _).mono ?_
          rintro e w5 ⟨rfl, hk5⟩
          have hk5' := hk4'.trans hk5 (fun _ _ h => h)
          have hb5 := hk5.blk (fun h => h) hb4
          clear x0 x1 x2 x3 x4
          have hKW := hK.trans hk5' (fun _ _ h => h)
          have hA1 : InS w5 (.slice (some ⟨g1, 0, none⟩) (placeC S i) N) (keptG l S i) := Sl.kept hk5' hA (fun _ _ h => h)
          have hB1 : Ints w5 (.slice (some ⟨g2, 0, none⟩) (placeC S i) N) (outL S i) := Sl.kept hk5' hB (fun _ _ h => h)
          have hP1 : Ints w5 (.slice (some ⟨w.heap.size, 0, none⟩) (l.length + 1) (l.length + 1)) PP := Sl.kept hk5' hP (fun _ _ h => h)
          have hS1 : Bls w5 (.slice (some ⟨sg, 0, none⟩) l.length sC) (secL l) := Sl.kept hk5' hS (fun _ _ h => h)
          have hW1 := hk5'.size
          have y0 := hb5.cell 0
          have y1 := hb5.cell 1
          have y2 := hb5.cell 2
          have y3 := hb5.cell 3
          have y4 := hb5.cell 4
          go_wp2_with (first
            | (at_builtin; refine wpList_pushFit (w := w5) rfl (.tmp 102) (.tmp 104) 22 rfl Try.underlying22 hI0 hI2 g1 (placeC S i) N (w5.heap.size) ((keptG l S i).map icells) (icells x) rfl rfl rfl hA1 rfl (icells_one x) hroom ?_; intro w7 hA7 hk7; have hB7 := Sl.kept hk7 hB1 (fun g hg e => hg12 (by have e2 : g2 = g := Option.some.inj hg; omega)))
            | (at_builtin; refine wpList_pushFit (w := w7) rfl (.tmp 106) (.tmp 108) 26 rfl Try.underlying26 hJ0 hJ2 g2 (placeC S i) N w7.heap.size ((outL S i).map icell') (icell' i) rfl rfl rfl hB7 rfl (fun u hu => by rw [List.mem_singleton.1 hu]; rfl) hroom ?_; intro w8 hB8 hk8))
          have hA8 : InS w8 (.slice (some ⟨g1, 0, none⟩) (placeC S i + 1) N) (keptG l S i ++ [x]) := by
            have := Sl.kept hk8 hA7 (fun g hg e => hg12 (by have e2 : g1 = g := Option.some.inj hg; omega))
            unfold InS
            rw [List.map_append]
            exact this
          have hB8' : Ints w8 (.slice (some ⟨g2, 0, none⟩) (placeC S i + 1) N) (outL S i ++ [(i : Int)]) := by
            unfold Ints
            rw [List.map_append]
            exact hB8
          have hP8 := Sl.kept hk8 (Sl.kept hk7 hP1 (fun g hg e => hg01 (by have e2 : w.heap.size = g := Option.some.inj hg; omega))) (fun g hg e => hg02 (by have e2 : w.heap.size = g := Option.some.inj hg; omega))
          have hS8 := Sl.kept hk8 (Sl.kept hk7 hS1 (fun g hg e => hsg1 (by have e2 : sg = g := Option.some.inj hg; omega))) (fun g hg e => hsg2 (by have e2 : sg = g := Option.some.inj hg; omega))
          have hK8 : Kept (fun _ => False) w w8 := (hKW.trans hk7 (fun k hk e => by omega)).trans hk8 (fun k hk e => by omega)
          have hks := HKS2.out
          have hos := HOS.out
          rw [← HPS3.out] at hA8 hB8'
          rw [← hks] at hA8
          rw [← hos] at hB8'
          have hps3 := HPS3.out
          have HPS4 := Lib.hid hps3
          clear hps3 hks hos
          go_roundw
          case rel => exact ⟨i + 1, by go_num, by omega, by (rw [HPS4.out]; try go_num), by (rw [HPS4.out]; try go_num), hA8, hB8', hP8, hS8, hK8⟩
          case measure => simp [intOf] <;> omega

end Go.Proofs.Ytdgniibolfahaaa

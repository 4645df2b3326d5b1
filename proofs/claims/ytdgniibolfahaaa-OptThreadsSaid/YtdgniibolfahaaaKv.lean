import Derived.Test.YtdgniibolfahaaaKu
set_option linter.unusedSimpArgs false
set_option linter.unusedVariables false
namespace Go.Proofs.Ytdgniibolfahaaa
open Go.RowKit

/-! ### OptThreads -/
theorem jumpR_eq {l : List In} (hv : Va l) (hok : InsOk l) {i : Nat} {x : In} (hx : l[i]? = some x) (hs : (secL l)[i]? = some false) : isJumpB x = (isR x 0 || cmpR x) :=
  jump_eq (hok.at_ hx) (fj_of hv hok hx hs).2
theorem isR_step {l : List In} (hv : Va l) (hok : InsOk l) {k : Nat} {x : In} (hx : l[k]? = some x) (hs : (secL l)[k]? = some false) : (isR x 0 = false ∧ stepJ l k = Option.none) ∨ (isR x 0 = true ∧ ∃ b : Nat, stepJ l k = some b ∧ (k : Int) + 1 + x.off = b ∧ b < l.length ∧ (secL l)[b]? = some false) := by
  have h0 := isR0 (hok.at_ hx) (fj_of hv hok hx hs).2
  rcases stepJ_at (check_va hv) hx hs with ⟨h5, hn⟩ | ⟨h5, b, h1, h2, h3, h4⟩
  · exact .inl ⟨by rw [h0]; simpa using h5, hn⟩
  · exact .inr ⟨by rw [h0]; simpa using h5, b, h1, h2, h3, h4⟩
set_option maxHeartbeats 16000000 in
set_option maxRecDepth 100000 in
theorem walk_threads (l : List In) (a : Option Addr) (c : Nat) (w : World) (h : Ins w (.slice a l.length c) l) (hokx : ∀ x ∈ l, InOk x) :
    Calls Try.prog 5 #[.slice a l.length c] w fun e w' => e = .returned (.bool true) ∧ Kept (fun _ => False) w w' := by
  have HKW := Lib.hid (fun W => known_any W)
  by_cases h150 : 150 < l.length
  · have hd : decide ((150 : Int) < l.length) = true := decide_eq_true (by omega)
    clear h150 h
    go_enter Try.func5, Try.ntmps5
    go_wp2_with fail
    refine (HKW.out _).mono ?_
    rintro e w1 ⟨rfl, hk1⟩
    go_wp2_with fail
    go_ret
    exact ⟨rfl, hk1⟩
  have hd : decide ((150 : Int) < l.length) = false := decide_eq_false (by omega)
  have hok : InsOk l := ⟨by omega, hokx⟩
  have HIN := Lib.hid (fun (W : World) (hk : Kept (fun _ => False) w W) => h.kept hk)
  have HCK := Lib.hid (fun W hI => rcheck_any l a c W hI hok)
  have HTH := Lib.hid (fun W hI => thread_any l a c W hI hok)
  have HSE := Lib.hid (fun W hI => seconds_any l a c W hI hok)
  have hl150 : l.length ≤ 150 := by omega
  clear h150 h hokx
  by_cases hz : checkI l = 0
  case neg =>
    have hzd : (checkI l != 0) = true := by simpa using hz
    generalize checkI l = r at *
    have HNZ := Lib.hid hz
    clear hz hok HSE
    go_enter Try.func5, Try.ntmps5
    go_wp2_with fail
    refine (HKW.out _).mono ?_
    rintro e w1 ⟨rfl, hk1⟩
    go_wp2_with fail
    refine (HCK.out _ (HIN.out _ hk1)).mono ?_
    rintro e w2 ⟨⟨p, rfl⟩, hk2⟩
    have hK2 := hk1.trans hk2 (fun _ _ h => h)
    go_wp2_with fail
    refine (HTH.out _ (HIN.out _ hK2)).mono ?_
    rintro e w3 ⟨tv, t, rfl, hT, ht, -, hk3, -⟩
    have hK3 := hK2.trans hk3 (fun _ _ h => h)
    obtain rfl := ht HNZ.out
    obtain ⟨tA, tC, htv⟩ := Sl.any hT
    simp only [List.map_nil, List.length_nil] at htv
    subst htv
    clear hT ht
    go_wp2_with fail
    go_ret
    exact ⟨rfl, hK3⟩
  case pos =>
  rw [hz] at HTH
  rw [hz] at HCK
  have hv := va_of hz
  have hl1 := hv.one
  have HVA := Lib.hid hv
  have HOK := Lib.hid hok
  clear hz hv hok
  go_enter Try.func5, Try.ntmps5
  go_wp2_with fail
  refine (HKW.out _).mono ?_
  rintro e w1 ⟨rfl, hk1⟩
  go_wp2_with fail
  refine (HCK.out _ (HIN.out _ hk1)).mono ?_
  rintro e w2 ⟨⟨p, rfl⟩, hk2⟩
  have hK2 := hk1.trans hk2 (fun _ _ h => h)
  go_wp2_with fail
  refine (HTH.out _ (HIN.out _ hK2)).mono ?_
  rintro e w3 ⟨tv, t, rfl, hT, -, ht, hk3, hto⟩
  have hK3 := hK2.trans hk3 (fun _ _ h => h)
  have hThr := thr_of (ht (by first | rfl | trivial))
  have htl := hThr.len
  have hto2 := thr_ok HVA.out HOK.out hThr
  have htc := check_va (thr_va HVA.out HOK.out hThr)
  obtain ⟨tg, tc, htv, htl2, htg⟩ := Sl.some_ hT (by rw [List.length_map]; omega)
  rw [List.length_map] at htv
  subst htv
  have HC2 := Lib.hid (fun W hI => rcheck_any t (some ⟨tg, 0, none⟩) tc W hI hto2)
  rw [htc] at HC2
  have HTT := Lib.hid (fun (W : World) (hk : Kept (fun _ => False) w3 W) => (Sl.kept hk hT (fun _ _ h => h) : InS W (.slice (some ⟨tg, 0, none⟩) t.length tc) t))
  have HLL := Lib.hid (fun (W : World) (hk : Kept (fun _ => False) w3 W) => HIN.out W (hK3.trans hk (fun _ _ h => h)))
  have HTHR := Lib.hid hThr
  rw [htl] at HTT HC2
  rw [htl]
  clear hk1 hk2 hk3 hK2 hto hto2 htc hThr ht hT htl2 HCK HTH HKW HIN
  have hne : ((l.length : Int) != (l.length : Int)) = false := by simp
  go_wp2_with fail
  refine (HC2.out _ (InS.ins (HTT.out _ (Kept.refl _ _)))).mono ?_
  rintro e w4 ⟨⟨p2, rfl⟩, hk4⟩
  go_wp2_with fail
  refine (HSE.out _ (HLL.out _ hk4)).mono ?_
  rintro e w5 ⟨sv, rfl, hS, hk5, -⟩
  have hk45 := hk4.trans hk5 (fun _ _ h => h)
  obtain ⟨sg, sc, hsv, hsl, hsg⟩ := Sl.some_ hS (by rw [List.length_map, sec_len]; omega)
  rw [List.length_map, sec_len] at hsv
  subst hsv
  have HSS := Lib.hid (fun (W : World) (hk : Kept (fun _ => False) w5 W) => (Sl.kept hk hS (fun _ _ h => h) : Bls W (.slice (some ⟨sg, 0, none⟩) l.length sc) (secL l)))
  clear hk4 hk5 hS hsl hne HC2 HSE
  go_wp2_with fail
  go_loopw [8] (fun iv wr => ∃ i : Nat, iv = .int .i64 i ∧ i ≤ l.length ∧ Kept (fun _ => False) w5 wr) (fun iv _ => l.length - (intOf iv).toNat)
  case atStart => exact ⟨0, rfl, by omega, Kept.refl _ _⟩
  case round =>
    obtain ⟨i, rfl, hi, hk⟩ := hrel
    have hk3r := hk45.trans hk (fun _ _ h => h)
    by_cases hlt : i < l.length
    case neg =>
      obtain rfl : i = l.length := by omega
      have hnd : decide ((l.length : Int) < l.length) = false := decide_eq_false (by omega)
      clear hlt hi
      go_wp2_with fail
      go_ret
      exact ⟨rfl, hK3.trans hk3r (fun _ _ h => h)⟩
    case pos =>
    obtain ⟨x, hx⟩ : ∃ x, l[i]? = some x := ⟨_, List.getElem?_eq_getElem hlt⟩
    obtain ⟨y, hy, e1, e2, e3, e4, e5, e6⟩ := HTHR.out.get i x hx
    obtain ⟨b, hb⟩ := sec_get hlt
    obtain ⟨lg, lo, rfl, hlg, c0, c1, c2, c3, c4⟩ := (HLL.out _ hk3r).at_ hx
    have hyc : (t.map icells)[i]? = some (icells y) := by rw [List.getElem?_map, hy]; rfl
    have HTC := Lib.hid (fun (W : World) (hk : Kept (fun _ => False) w3 W) (k : Nat) (hk5 : k < 5) => (Sl.cell (HTT.out W hk) hyc (k := k) hk5 : W.cell? ⟨tg, i * 5 + k, none⟩ = (icells y)[k]?))
    have t3 : wr.cell? ⟨tg, i * 5 + 3, none⟩ = some (.int .i16 y.off) := HTC.out _ hk3r 3 (by omega)
    have htlt : tg < wr.heap.size := Sl.lt (HTT.out _ hk3r) _ rfl
    have hyo : InOk y := (thr_ok HVA.out HOK.out HTHR.out).at_ hy
    have hxo := HOK.out.at_ hx
    have hyx : ({ x with off := y.off } : In) = y := by
      obtain ⟨a1, a2, a3, a4, a5⟩ := x
      obtain ⟨b1, b2, b3, b4, b5⟩ := y
      simp only at e1 e2 e3 e4
      subst e1 e2 e3 e4
      rfl
    have hb1 : Blk (wr.alloc (.cells (inVals { x with off := y.off }) 37)) wr.heap.size 37 (inVals y) := by
      rw [hyx]
      exact Blk.new wr 37 (inVals y)
    have hkW : Kept (fun _ => False) wr (wr.alloc (.cells (inVals { x with off := y.off }) 37)) := (Kept.refl _ wr).alloc _
    have hHX := Lib.hid hx
    have hHY := Lib.hid hy
    have hHB := Lib.hid hb
    have hE5 := Lib.hid e5
    have hE6 := Lib.hid e6
    have hE1 := Lib.hid e1
    have hYX := Lib.hid hyx
    clear hx hy hb e1 e2 e3 e4 e5 e6 hyc hyx
    have t0 : wr.cell? ⟨tg, i * 5, none⟩ = some (.int .u8 y.op) := HTC.out _ hk3r 0 (by omega)
    have t1 : wr.cell? ⟨tg, i * 5 + 1, none⟩ = some (.int .u8 y.dst) := HTC.out _ hk3r 1 (by omega)
    have t2 : wr.cell? ⟨tg, i * 5 + 2, none⟩ = some (.int .u8 y.src) := HTC.out _ hk3r 2 (by omega)
    have t4 : wr.cell? ⟨tg, i * 5 + 4, none⟩ = some (.int .i32 y.imm) := HTC.out _ hk3r 4 (by omega)
    have d0 := Bls.cell (HSS.out _ hk) hHB.out
    have hsgl : sg < wr.heap.size := Sl.lt (HSS.out _ hk) _ rfl
    go_upto_region 18 with fail
    go_cut [95] (fun tv wx => tv = .bool false ∧ Blk wx wr.heap.size 37 (inVals y) ∧ Kept (fun _ => False) wr wx)
    case first =>
      have hself : eqIn { x with off := y.off } y = true := (eqIn_iff _ y).2 hYX.out
      cases b
      case false =>
        refine wp_region_mix0 [.l, .w, .w, .w, .l, .l, .w, .w, .w, .w, .l, .w, .w, .w, .w, .l, .w, .w, .w, .l, .l, .w, .w] (by kernel_rfl) (by kernel_rfl) ?_
        repeat (first
          | (refine mix_w1 ?_; go_big_quiet_step (fail); refine wpQuiet_nil ?_)
          | (refine mix_l1 rfl ?_; go_big_quiet_step (fail); refine wpQuiet_nil ?_))
        refine mix_binG rfl rfl .neq 37 37 (.tmp 73) (.tmp 77) rfl (.agg (inVals { x with off := y.off })) (.agg (inVals y)) (.bool (!eqIn { x with off := y.off } y)) rfl rfl (fun w' => guardIn_run .neq _ _ { x with off := y.off } y w') (fun w' => neqIn_run { x with off := y.off } y w') ?_
        rw [hself]
        try simp only [Act.put, List.setIfInBounds_toArray, List.set_cons_succ, List.set_cons_zero, Bool.not_true]
        repeat (first
          | (refine mix_w1 ?_; go_big_quiet_step (fail); refine wpQuiet_nil ?_)
          | (refine mix_l1 rfl ?_; go_big_quiet_step (fail); refine wpQuiet_nil ?_))
        refine mix_done ?_
        go_wp2_with fail
        go_meet
        exact ⟨rfl, hb1.drew, hkW.drew⟩
      case true =>
        have hself2 : eqIn x y = true := (eqIn_iff x y).2 (hE5.out (.inl hHB.out)).symm
        refine wp_region_mix0 [.l, .w, .w, .w, .l, .l, .w, .w, .w, .w, .l, .w, .w, .w, .w, .l, .w, .w, .w, .l, .l, .w, .w] (by kernel_rfl) (by kernel_rfl) ?_
        repeat (first
          | (refine mix_w1 ?_; go_big_quiet_step (fail); refine wpQuiet_nil ?_)
          | (refine mix_l1 rfl ?_; go_big_quiet_step (fail); refine wpQuiet_nil ?_))
        refine mix_binG rfl rfl .neq 37 37 (.tmp 73) (.tmp 77) rfl (.agg (inVals { x with off := y.off })) (.agg (inVals y)) (.bool (!eqIn { x with off := y.off } y)) rfl rfl (fun w' => guardIn_run .neq _ _ { x with off := y.off } y w') (fun w' => neqIn_run { x with off := y.off } y w') ?_
        rw [hself]
        try simp only [Act.put, List.setIfInBounds_toArray, List.set_cons_succ, List.set_cons_zero, Bool.not_true]
        repeat (first
          | (refine mix_w1 ?_; go_big_quiet_step (fail); refine wpQuiet_nil ?_)
          | (refine mix_l1 rfl ?_; go_big_quiet_step (fail); refine wpQuiet_nil ?_))
        refine mix_binG rfl rfl .neq 37 37 (.tmp 88) (.tmp 92) rfl (.agg (inVals x)) (.agg (inVals y)) (.bool (!eqIn x y)) rfl rfl (fun w' => guardIn_run .neq _ _ x y w') (fun w' => neqIn_run x y w') ?_
        rw [hself2]
        try simp only [Act.put, List.setIfInBounds_toArray, List.set_cons_succ, List.set_cons_zero, Bool.not_true]
        repeat (first
          | (refine mix_w1 ?_; go_big_quiet_step (fail); refine wpQuiet_nil ?_)
          | (refine mix_l1 rfl ?_; go_big_quiet_step (fail); refine wpQuiet_nil ?_))
        refine mix_done ?_
        go_wp2_with fail
        go_meet
        exact ⟨rfl, hb1.drew, hkW.drew⟩
    case rest =>
    obtain ⟨rfl, hb2, hkx⟩ := hcut
    clear c0 c1 c2 c3 c4 t0 t1 t2 t3 t4 d0 hb1 hkW htlt
    have hkxx := hk.trans hkx (fun _ _ h => h)
    have x0 := hb2.cell 0
    have x1 := hb2.cell 1
    have x2 := hb2.cell 2
    have x3 := hb2.cell 3
    have x4 := hb2.cell 4
    have hltb := hb2.lt
    have d0 := Bls.cell (HSS.out _ hkxx) hHB.out
    have hsgl2 : sg < wc.heap.size := Sl.lt (HSS.out _ hkxx) _ rfl
    have ej : isR y 0 = isR x 0 := by unfold isR clsI codeI; rw [hE1.out]
    have ec : cmpR y = cmpR x := by unfold cmpR clsI codeI; rw [hE1.out]
    have HIS := Lib.hid (fun W => ris_any y 0 W hyo)
    have HCM := Lib.hid (fun W => rcompares_any y W hyo)
    rw [ej] at HIS
    rw [ec] at HCM
    have HJX := Lib.hid (fun (hb : b = false) => jumpR_eq HVA.out HOK.out hHX.out (by rw [hHB.out, hb]))
    clear ej ec
    cases b
    case true =>
      have hyx0 : y = x := hE5.out (.inl hHB.out)
      have hk5 := hk.trans hkx (fun _ _ h => h)
      have hk3 := hk45.trans hk5 (fun _ _ h => h)
      obtain ⟨lg', lo', hlgg, hlg2, l0, l1, l2, l3, l4⟩ := (HLL.out _ hk3).at_ hHX.out
      cases hlgg
      have r3 : (wc).cell? ⟨tg, i * 5 + 3, none⟩ = some (.int .i16 y.off) := HTC.out _ hk3 3 (by omega)
      have hoff : (x.off != y.off) = false := by rw [hyx0]; simp
      have hHYX := Lib.hid hyx0
      clear hyx0
      go_wp2_with fail
      refine wp_region_mix0 [.w, .w, .w, .w, .l, .w, .w, .w, .w, .l, .w] (by kernel_rfl) (by kernel_rfl) ?_
      repeat (first
        | (refine mix_w1 ?_; go_big_quiet_step (fail); refine wpQuiet_nil ?_)
        | (refine mix_l1 rfl ?_; go_big_quiet_step (fail); refine wpQuiet_nil ?_))
      refine mix_done ?_
      go_wp2_with fail
      first
        | exact ⟨⟨i + 1, by go_num, by omega, hk5.drew⟩, by simp [intOf] <;> omega⟩
        | (go_roundw
           case rel => exact ⟨i + 1, by go_num, by omega, hk5.drew⟩
           case measure => simp [intOf] <;> omega)
    case false =>
    have hjx := HJX.out rfl
    generalize isR x 0 = r0 at *
    generalize cmpR x = rc at *
    cases r0
    case true =>
      rw [Bool.true_or] at hjx
      have hjx := Lib.hid hjx
      clear HJX
      go_wp2_with fail
      refine (HIS.out _).mono ?_
      rintro e w9 ⟨rfl, hk9⟩
      have hkx9 := hkx.trans hk9 (fun _ _ h => h)
      clear x0 x1 x2 x3 x4 d0
      have hk5 := hk.trans hkx9 (fun _ _ h => h)
      have hk3 := hk45.trans hk5 (fun _ _ h => h)
      obtain ⟨lg', lo', hlgg, hlg2, l0, l1, l2, l3, l4⟩ := (HLL.out _ hk3).at_ hHX.out
      cases hlgg
      obtain ⟨tgt, f, htgt, hfin, hfl, hfs, hfo, heo⟩ := hE6.out hHB.out hjx.out
      obtain ⟨n0, hn0, hn1, hn2, _⟩ := jump_ok (check_va HVA.out) hHX.out hHB.out hjx.out
      obtain rfl : n0 = tgt := by omega
      have HFIN := Lib.hid hfin
      have HEO := Lib.hid heo
      have hN2 := Lib.hid hn2
      clear hfin hfs hfo heo hn0 hn2
      have hxoff := hxo.off
      have hyoff := hyo.off
      go_wp2_with fail
      go_loopw [10, 11] (fun av kv wr2 => ∃ k n : Nat, av = .int .i64 k ∧ kv = .int .i64 n ∧ n ≤ l.length ∧ iterJ l n n0 = some k ∧ k < l.length ∧ (secL l)[k]? = some false ∧ Kept (fun _ => False) w5 wr2) (fun _ kv _ => l.length - (intOf kv).toNat)
      case atStart => exact ⟨n0, 0, rfl, rfl, by omega, rfl, hn1, hN2.out, hk5⟩
      case round =>
        clear hk5 hk3 l0 l1 l2 l3 l4
        obtain ⟨k, n, rfl, rfl, hn, hita, hkl, hsa, hk5⟩ := hrel
        have hk3 := hk45.trans hk5 (fun _ _ h => h)
        obtain ⟨xa, hxa⟩ : ∃ xa, l[k]? = some xa := ⟨_, List.getElem?_eq_getElem hkl⟩
        have hxao := HOK.out.at_ hxa
        have hxaoff := hxao.off
        have hstep := isR_step HVA.out HOK.out hxa hsa
        have hxa := Lib.hid hxa
        have hsa := Lib.hid hsa
        have hita := Lib.hid hita
        have HSTEP := Lib.hid hstep
        clear hstep
        by_cases hnl : n < l.length
        case neg =>
          have hnd : decide ((n : Int) < (l.length : Int)) = false := decide_eq_false (by omega)
          have hnd2 : decide (n < l.length) = false := decide_eq_false (by omega)
          have HISA := Lib.hid (fun W => ris_any xa 0 W hxao)
          obtain ⟨lg', lo', hlgg, hlg3, m0, m1, m2, m3, m4⟩ := (HLL.out _ hk3).at_ hxa.out
          cases hlgg
          cases hja : isR xa 0
          case false =>
            rw [hja] at HISA
            have hnone : stepJ l k = Option.none := by
              rcases isR_step HVA.out HOK.out hxa.out hsa.out with ⟨_, h⟩ | ⟨h, _⟩
              · exact h
              · rw [hja] at h; cases h
            have hfk := HFIN.out.eq hita.out hnone
            have heq : ((i : Int) + 1 + y.off != (k : Int)) = false := bne_eq_false_iff_eq.2 (by have := HEO.out; omega)
            clear hja hnone hfk
            go_wp2_with fail
            refine (HISA.out _).mono ?_
            rintro e w12 ⟨rfl, hk12⟩
            have hk5' := hk5.trans hk12 (fun _ _ h => h)
            have r3 : w12.cell? ⟨tg, i * 5 + 3, none⟩ = some (.int .i16 y.off) := HTC.out _ (hk45.trans hk5' (fun _ _ h => h)) 3 (by omega)
            go_wp2_with fail
            first
              | exact ⟨⟨i + 1, by go_num, by omega, hk5'⟩, by simp [intOf] <;> omega⟩
              | (go_roundw
                 case rel => exact ⟨i + 1, by go_num, by omega, hk5'⟩
                 case measure => simp [intOf] <;> omega)
          case true =>
            rw [hja] at HISA
            clear hja
            go_wp2_with fail
            refine (HISA.out _).mono ?_
            rintro e w12 ⟨rfl, hk12⟩
            have hk5' := hk5.trans hk12 (fun _ _ h => h)
            go_wp2_with fail
            first
              | exact ⟨⟨i + 1, by go_num, by omega, hk5'⟩, by simp [intOf] <;> omega⟩
              | (go_roundw
                 case rel => exact ⟨i + 1, by go_num, by omega, hk5'⟩
                 case measure => simp [intOf] <;> omega)
        case pos =>
          have hnd : decide ((n : Int) < (l.length : Int)) = true := decide_eq_true (by omega)
          have hnd2 : decide (n < l.length) = true := decide_eq_true (by omega)
          have HISB := Lib.hid (fun W => ris_any xa 0 W hxao)
          obtain ⟨lg', lo', hlgg, hlg3, m0, m1, m2, m3, m4⟩ := (HLL.out _ hk3).at_ hxa.out
          cases hlgg
          cases hjb : isR xa 0
          case true =>
            obtain ⟨b2, hb2, hbo, hbl, hbs⟩ : ∃ b : Nat, stepJ l k = some b ∧ (k : Int) + 1 + xa.off = b ∧ b < l.length ∧ (secL l)[b]? = some false := by
              rcases HSTEP.out with ⟨h, _⟩ | ⟨_, h⟩
              · rw [hjb] at h; cases h
              · exact h
            rw [hjb] at HISB
            have HIT := Lib.hid (iterJ_step hita.out hb2)
            have HBS := Lib.hid hbs
            clear hjb hb2 hbs hita HSTEP hsa
            go_wp2_with fail
            refine (HISB.out _).mono ?_
            rintro e w11 ⟨rfl, hk11⟩
            have hk5b := hk5.trans hk11 (fun _ _ h => h)
            obtain ⟨lg', lo', hlgg, hlg4, o0, o1, o2, o3, o4⟩ := (HLL.out _ (hk45.trans hk5b (fun _ _ h => h))).at_ hxa.out
            cases hlgg
            clear m0 m1 m2 m3 m4
            go_wp2_with fail
            go_roundw
            case rel => exact ⟨b2, n + 1, by go_num, by go_num, by omega, HIT.out, hbl, HBS.out, hk5b⟩
            case measure => simp [intOf] <;> omega
          case false =>
            rw [hjb] at HISB
            have hjb := Lib.hid hjb
            go_wp2_with fail
            refine (HISB.out _).mono ?_
            rintro e w11 ⟨rfl, hk11⟩
            have hk5b := hk5.trans hk11 (fun _ _ h => h)
            have hk3b := hk45.trans hk5b (fun _ _ h => h)
            clear m0 m1 m2 m3 m4
            have HISA := Lib.hid (fun W => ris_any xa 0 W hxao)
            obtain ⟨lg', lo', hlgg, hlg3, m0, m1, m2, m3, m4⟩ := (HLL.out _ hk3b).at_ hxa.out
            cases hlgg
            cases hja : isR xa 0
            case false =>
              rw [hja] at HISA
              have hnone : stepJ l k = Option.none := by
                rcases isR_step HVA.out HOK.out hxa.out hsa.out with ⟨_, h⟩ | ⟨h, _⟩
                · exact h
                · rw [hja] at h; cases h
              have hfk := HFIN.out.eq hita.out hnone
              have heq : ((i : Int) + 1 + y.off != (k : Int)) = false := bne_eq_false_iff_eq.2 (by have := HEO.out; omega)
              clear hja hnone hfk
              go_wp2_with fail
              refine (HISA.out _).mono ?_
              rintro e w12 ⟨rfl, hk12⟩
              have hk5' := hk5b.trans hk12 (fun _ _ h => h)
              have r3 : w12.cell? ⟨tg, i * 5 + 3, none⟩ = some (.int .i16 y.off) := HTC.out _ (hk45.trans hk5' (fun _ _ h => h)) 3 (by omega)
              go_wp2_with fail
              first
                | exact ⟨⟨i + 1, by go_num, by omega, hk5'⟩, by simp [intOf] <;> omega⟩
                | (go_roundw
                   case rel => exact ⟨i + 1, by go_num, by omega, hk5'⟩
                   case measure => simp [intOf] <;> omega)
            case true =>
              rw [hja] at HISA
              clear hja
              go_wp2_with fail
              refine (HISA.out _).mono ?_
              rintro e w12 ⟨rfl, hk12⟩
              have hk5' := hk5b.trans hk12 (fun _ _ h => h)
              go_wp2_with fail
              first
                | exact ⟨⟨i + 1, by go_num, by omega, hk5'⟩, by simp [intOf] <;> omega⟩
                | (go_roundw
                   case rel => exact ⟨i + 1, by go_num, by omega, hk5'⟩
                   case measure => simp [intOf] <;> omega)
    case false =>
      rw [Bool.false_or] at hjx
      go_wp2_with fail
      refine (HIS.out _).mono ?_
      rintro e w9 ⟨rfl, hk9⟩
      have hkx9 := hkx.trans hk9 (fun _ _ h => h)
      have hb3 := hk9.blk (fun h => h) hb2
      clear x0 x1 x2 x3 x4 d0
      have x0 := hb3.cell 0
      have x1 := hb3.cell 1
      have x2 := hb3.cell 2
      have x3 := hb3.cell 3
      have x4 := hb3.cell 4
      go_wp2_with fail
      refine (HCM.out _).mono ?_
      rintro e w10 ⟨rfl, hk10⟩
      have hkx10 := hkx9.trans hk10 (fun _ _ h => h)
      clear x0 x1 x2 x3 x4
      cases rc
      case true =>
        have hjx := Lib.hid hjx
        clear HJX
        have hk5 := hk.trans hkx10 (fun _ _ h => h)
        have hk3 := hk45.trans hk5 (fun _ _ h => h)
        obtain ⟨lg', lo', hlgg, hlg2, l0, l1, l2, l3, l4⟩ := (HLL.out _ hk3).at_ hHX.out
        cases hlgg
        obtain ⟨tgt, f, htgt, hfin, hfl, hfs, hfo, heo⟩ := hE6.out hHB.out hjx.out
        obtain ⟨n0, hn0, hn1, hn2, _⟩ := jump_ok (check_va HVA.out) hHX.out hHB.out hjx.out
        obtain rfl : n0 = tgt := by omega
        have HFIN := Lib.hid hfin
        have HEO := Lib.hid heo
        have hN2 := Lib.hid hn2
        clear hfin hfs hfo heo hn0 hn2
        have hxoff := hxo.off
        have hyoff := hyo.off
        go_wp2_with fail
        go_loopw [10, 11] (fun av kv wr2 => ∃ k n : Nat, av = .int .i64 k ∧ kv = .int .i64 n ∧ n ≤ l.length ∧ iterJ l n n0 = some k ∧ k < l.length ∧ (secL l)[k]? = some false ∧ Kept (fun _ => False) w5 wr2) (fun _ kv _ => l.length - (intOf kv).toNat)
        case atStart => exact ⟨n0, 0, rfl, rfl, by omega, rfl, hn1, hN2.out, hk5⟩
        case round =>
          clear hk5 hk3 l0 l1 l2 l3 l4
          obtain ⟨k, n, rfl, rfl, hn, hita, hkl, hsa, hk5⟩ := hrel
          have hk3 := hk45.trans hk5 (fun _ _ h => h)
          obtain ⟨xa, hxa⟩ : ∃ xa, l[k]? = some xa := ⟨_, List.getElem?_eq_getElem hkl⟩
          have hxao := HOK.out.at_ hxa
          have hxaoff := hxao.off
          have hstep := isR_step HVA.out HOK.out hxa hsa
          have hxa := Lib.hid hxa
          have hsa := Lib.hid hsa
          have hita := Lib.hid hita
          have HSTEP := Lib.hid hstep
          clear hstep
          by_cases hnl : n < l.length
          case neg =>
            have hnd : decide ((n : Int) < (l.length : Int)) = false := decide_eq_false (by omega)
            have hnd2 : decide (n < l.length) = false := decide_eq_false (by omega)
            have HISA := Lib.hid (fun W => ris_any xa 0 W hxao)
            obtain ⟨lg', lo', hlgg, hlg3, m0, m1, m2, m3, m4⟩ := (HLL.out _ hk3).at_ hxa.out
            cases hlgg
            cases hja : isR xa 0
            case false =>
              rw [hja] at HISA
              have hnone : stepJ l k = Option.none := by
                rcases isR_step HVA.out HOK.out hxa.out hsa.out with ⟨_, h⟩ | ⟨h, _⟩
                · exact h
                · rw [hja] at h; cases h
              have hfk := HFIN.out.eq hita.out hnone
              have heq : ((i : Int) + 1 + y.off != (k : Int)) = false := bne_eq_false_iff_eq.2 (by have := HEO.out; omega)
              clear hja hnone hfk
              go_wp2_with fail
              refine (HISA.out _).mono ?_
              rintro e w12 ⟨rfl, hk12⟩
              have hk5' := hk5.trans hk12 (fun _ _ h => h)
              have r3 : w12.cell? ⟨tg, i * 5 + 3, none⟩ = some (.int .i16 y.off) := HTC.out _ (hk45.trans hk5' (fun _ _ h => h)) 3 (by omega)
              go_wp2_with fail
              first
                | exact ⟨⟨i + 1, by go_num, by omega, hk5'⟩, by simp [intOf] <;> omega⟩
                | (go_roundw
                   case rel => exact ⟨i + 1, by go_num, by omega, hk5'⟩
                   case measure => simp [intOf] <;> omega)
            case true =>
              rw [hja] at HISA
              clear hja
              go_wp2_with fail
              refine (HISA.out _).mono ?_
              rintro e w12 ⟨rfl, hk12⟩
              have hk5' := hk5.trans hk12 (fun _ _ h => h)
              go_wp2_with fail
              first
                | exact ⟨⟨i + 1, by go_num, by omega, hk5'⟩, by simp [intOf] <;> omega⟩
                | (go_roundw
                   case rel => exact ⟨i + 1, by go_num, by omega, hk5'⟩
                   case measure => simp [intOf] <;> omega)
          case pos =>
            have hnd : decide ((n : Int) < (l.length : Int)) = true := decide_eq_true (by omega)
            have hnd2 : decide (n < l.length) = true := decide_eq_true (by omega)
            have HISB := Lib.hid (fun W => ris_any xa 0 W hxao)
            obtain ⟨lg', lo', hlgg, hlg3, m0, m1, m2, m3, m4⟩ := (HLL.out _ hk3).at_ hxa.out
            cases hlgg
            cases hjb : isR xa 0
            case true =>
              obtain ⟨b2, hb2, hbo, hbl, hbs⟩ : ∃ b : Nat, stepJ l k = some b ∧ (k : Int) + 1 + xa.off = b ∧ b < l.length ∧ (secL l)[b]? = some false := by
                rcases HSTEP.out with ⟨h, _⟩ | ⟨_, h⟩
                · rw [hjb] at h; cases h
                · exact h
              rw [hjb] at HISB
              have HIT := Lib.hid (iterJ_step hita.out hb2)
              have HBS := Lib.hid hbs
              clear hjb hb2 hbs hita HSTEP hsa
              go_wp2_with fail
              refine (HISB.out _).mono ?_
              rintro e w11 ⟨rfl, hk11⟩
              have hk5b := hk5.trans hk11 (fun _ _ h => h)
              obtain ⟨lg', lo', hlgg, hlg4, o0, o1, o2, o3, o4⟩ := (HLL.out _ (hk45.trans hk5b (fun _ _ h => h))).at_ hxa.out
              cases hlgg
              clear m0 m1 m2 m3 m4
              go_wp2_with fail
              go_roundw
              case rel => exact ⟨b2, n + 1, by go_num, by go_num, by omega, HIT.out, hbl, HBS.out, hk5b⟩
              case measure => simp [intOf] <;> omega
            case false =>
              rw [hjb] at HISB
              have hjb := Lib.hid hjb
              go_wp2_with fail
              refine (HISB.out _).mono ?_
              rintro e w11 ⟨rfl, hk11⟩
              have hk5b := hk5.trans hk11 (fun _ _ h => h)
              have hk3b := hk45.trans hk5b (fun _ _ h => h)
              clear m0 m1 m2 m3 m4
              have HISA := Lib.hid (fun W => ris_any xa 0 W hxao)
              obtain ⟨lg', lo', hlgg, hlg3, m0, m1, m2, m3, m4⟩ := (HLL.out _ hk3b).at_ hxa.out
              cases hlgg
              cases hja : isR xa 0
              case false =>
                rw [hja] at HISA
                have hnone : stepJ l k = Option.none := by
                  rcases isR_step HVA.out HOK.out hxa.out hsa.out with ⟨_, h⟩ | ⟨h, _⟩
                  · exact h
                  · rw [hja] at h; cases h
                have hfk := HFIN.out.eq hita.out hnone
                have heq : ((i : Int) + 1 + y.off != (k : Int)) = false := bne_eq_false_iff_eq.2 (by have := HEO.out; omega)
                clear hja hnone hfk
                go_wp2_with fail
                refine (HISA.out _).mono ?_
                rintro e w12 ⟨rfl, hk12⟩
                have hk5' := hk5b.trans hk12 (fun _ _ h => h)
                have r3 : w12.cell? ⟨tg, i * 5 + 3, none⟩ = some (.int .i16 y.off) := HTC.out _ (hk45.trans hk5' (fun _ _ h => h)) 3 (by omega)
                go_wp2_with fail
                first
                  | exact ⟨⟨i + 1, by go_num, by omega, hk5'⟩, by simp [intOf] <;> omega⟩
                  | (go_roundw
                     case rel => exact ⟨i + 1, by go_num, by omega, hk5'⟩
                     case measure => simp [intOf] <;> omega)
              case true =>
                rw [hja] at HISA
                clear hja
                go_wp2_with fail
                refine (HISA.out _).mono ?_
                rintro e w12 ⟨rfl, hk12⟩
                have hk5' := hk5b.trans hk12 (fun _ _ h => h)
                go_wp2_with fail
                first
                  | exact ⟨⟨i + 1, by go_num, by omega, hk5'⟩, by simp [intOf] <;> omega⟩
                  | (go_roundw
                     case rel => exact ⟨i + 1, by go_num, by omega, hk5'⟩
                     case measure => simp [intOf] <;> omega)
      case false =>
        have hyx0 : y = x := hE5.out (.inr hjx)
        clear hjx HJX
        have hk5 := hk.trans hkx10 (fun _ _ h => h)
        have hk3 := hk45.trans hk5 (fun _ _ h => h)
        obtain ⟨lg', lo', hlgg, hlg2, l0, l1, l2, l3, l4⟩ := (HLL.out _ hk3).at_ hHX.out
        cases hlgg
        have r3 : (w10).cell? ⟨tg, i * 5 + 3, none⟩ = some (.int .i16 y.off) := HTC.out _ hk3 3 (by omega)
        have hoff : (x.off != y.off) = false := by rw [hyx0]; simp
        have hHYX := Lib.hid hyx0
        clear hyx0
        go_wp2_with fail
        refine wp_region_mix0 [.w, .w, .w, .w, .l, .w, .w, .w, .w, .l, .w] (by kernel_rfl) (by kernel_rfl) ?_
        repeat (first
          | (refine mix_w1 ?_; go_big_quiet_step (fail); refine wpQuiet_nil ?_)
          | (refine mix_l1 rfl ?_; go_big_quiet_step (fail); refine wpQuiet_nil ?_))
        refine mix_done ?_
        go_wp2_with fail
        first
          | exact ⟨⟨i + 1, by go_num, by omega, hk5.drew⟩, by simp [intOf] <;> omega⟩
          | (go_roundw
             case rel => exact ⟨i + 1, by go_num, by omega, hk5.drew⟩
             case measure => simp [intOf] <;> omega)

end Go.Proofs.Ytdgniibolfahaaa

import Derived.Test.YtdgniibolfahaaaKs
set_option linter.unusedSimpArgs false
set_option linter.unusedVariables false
namespace Go.Proofs.Ytdgniibolfahaaa
open Go.RowKit

/-! ### OptForm -/
theorem second_op {t : List In} (hv : Va t) {i : Nat} {y : In} (hy : t[i]? = some y) (hs : (secL t)[i]? = some true) : y.op = 0 := by
  have hi := (List.getElem?_eq_some_iff.1 hy).1
  obtain ⟨q, rfl⟩ : ∃ q, i = q + 1 := ⟨i - 1, by
    rcases Nat.eq_zero_or_pos i with rfl | h
    · rw [sec_zero (by omega)] at hs; cases hs
    · omega⟩
  obtain ⟨x, hx⟩ : ∃ x, t[q]? = some x := ⟨_, List.getElem?_eq_getElem (by omega)⟩
  obtain ⟨b, hb⟩ := sec_get (l := t) (i := q) (by omega)
  have hsu := sec_succ hx hb hi
  rw [hs] at hsu
  cases b
  case true => simp at hsu
  case false =>
    have h24 : (x.op == 24) = true := by simpa using hsu.symm
    have hw := (wrong_rest (hv.wr q x hx hb)).2.2.1
    rw [h24] at hw
    obtain ⟨z, hz, hz0, _⟩ := whole_get hx (by simpa using hw)
    rw [hy] at hz
    cases hz
    exact hz0
theorem no_idle {t : List In} (hv : Va t) (hok : InsOk t) (hi : idleC t < 0) {i : Nat} {y : In} (hy : t[i]? = some y) : (isR y 0 && (y.off == 0)) = false := by
  have hil := (List.getElem?_eq_some_iff.1 hy).1
  obtain ⟨b, hb⟩ := sec_get hil
  cases b
  case true =>
    have h0 := second_op hv hy hb
    have : isR y 0 = false := by unfold isR clsI; rw [h0]; rfl
    rw [this]
    rfl
  case false =>
    rw [isR0 (hok.at_ hy) (fj_of hv hok hy hb).2]
    have := idle_none t.length 0 hi i (by omega) (by omega)
    unfold idleB at this
    rw [hy, hb] at this
    exact this
set_option maxHeartbeats 16000000 in
set_option maxRecDepth 100000 in
theorem walk_form (l : List In) (a : Option Addr) (c : Nat) (w : World) (h : Ins w (.slice a l.length c) l) (hokx : ∀ x ∈ l, InOk x) :
    Calls Try.prog 3 #[.slice a l.length c] w fun e w' => e = .returned (.bool true) ∧ Kept (fun _ => False) w w' := by
  have HKW := Lib.hid (fun W => known_any W)
  by_cases h150 : 150 < l.length
  · have hd : decide ((150 : Int) < l.length) = true := decide_eq_true (by omega)
    clear h150 h
    go_enter Try.func3, Try.ntmps3
    go_wp2_with fail
    refine (HKW.out _).mono ?_
    rintro e w1 ⟨rfl, hk1⟩
    go_wp2_with fail
    go_ret
    exact ⟨rfl, hk1⟩
  have hd : decide ((150 : Int) < l.length) = false := decide_eq_false (by omega)
  have hok : InsOk l := ⟨by omega, hokx⟩
  have HIN := Lib.hid (fun (W : World) (hk : Kept (fun _ => False) w W) => h.kept hk)
  have HCK := Lib.hid (fun W hI => rcheck_any l a c W hI hok)
  have HTR := Lib.hid (fun W hI => trim_any l a c W hI hok)
  have hl150 : l.length ≤ 150 := by omega
  clear h150 h hokx
  by_cases hz : checkI l = 0
  case neg =>
    have hzd : (checkI l != 0) = true := by simpa using hz
    have ht : trimO l = ([], []) := by unfold trimO; rw [if_neg hz]
    rw [ht] at HTR
    generalize checkI l = r at *
    clear hz hok ht
    go_enter Try.func3, Try.ntmps3
    go_wp2_with fail
    refine (HKW.out _).mono ?_
    rintro e w1 ⟨rfl, hk1⟩
    go_wp2_with fail
    refine (HCK.out _ (HIN.out _ hk1)).mono ?_
    rintro e w2 ⟨⟨p, rfl⟩, hk2⟩
    have hK2 := hk1.trans hk2 (fun _ _ h => h)
    go_wp2_with fail
    refine (HTR.out _ (HIN.out _ hK2)).mono ?_
    rintro e w3 ⟨tv, nv, rfl, hT, hN, hk3, -, -⟩
    have hK3 := hK2.trans hk3 (fun _ _ h => h)
    obtain ⟨tA, tC, htv⟩ := Sl.any hT
    obtain ⟨nA, nC, hnv⟩ := Sl.any hN
    simp only [List.map_nil, List.length_nil] at htv hnv
    subst htv
    subst hnv
    clear hT hN
    go_wp2_with fail
    go_ret
    exact ⟨rfl, hK3⟩
  case pos =>
  have ht : trimO l = trimL l := by unfold trimO; rw [if_pos hz]
  rw [ht, hz] at HTR
  rw [hz] at HCK
  obtain ⟨hinv, hidl⟩ := trim_inv hz hok
  clear ht hz hok
  generalize hTT : (trimL l).1 = T at *
  generalize hNN : (trimL l).2 = N at *
  clear hTT hNN
  have hTc := check_va hinv.va
  have hTo := trim_self hinv.va hinv.ok hinv.rch hidl
  have hT1 := hinv.va.one
  have hTl := hinv.le
  have hNl := hinv.num.len
  have HC2 := Lib.hid (fun g c2 W hI => rcheck_any T (some ⟨g, 0, none⟩) c2 W hI hinv.ok)
  have HT2 := Lib.hid (fun g c2 W hI => trim_any T (some ⟨g, 0, none⟩) c2 W hI hinv.ok)
  have HOF := Lib.hid (fun g c2 W hI => rof_any T (some ⟨g, 0, none⟩) c2 W hI hinv.ok hTc)
  have HSE := Lib.hid (fun g c2 W hI => seconds_any T (some ⟨g, 0, none⟩) c2 W hI hinv.ok)
  have HSU := Lib.hid (fun g c2 W hI => subs_any T (some ⟨g, 0, none⟩) c2 W hI hinv.ok)
  have hsub : subsC T = 0 := by
    have := hTc
    rw [checkI_eq] at this
    by_cases hs : subsC T = 0
    · exact hs
    · rw [if_neg hs] at this
      exact absurd this hs
  have htr : trimO T = trimL T := by unfold trimO; rw [if_pos hTc]
  rw [htr, hTo, hTc] at HT2
  rw [hTc] at HC2
  rw [hsub] at HSU
  have HINV := Lib.hid hinv
  have HIDL := Lib.hid hidl
  clear hTc hTo hsub htr hinv hidl
  go_enter Try.func3, Try.ntmps3
  go_wp2_with fail
  refine (HKW.out _).mono ?_
  rintro e w1 ⟨rfl, hk1⟩
  go_wp2_with fail
  refine (HCK.out _ (HIN.out _ hk1)).mono ?_
  rintro e w2 ⟨⟨p, rfl⟩, hk2⟩
  have hK2 := hk1.trans hk2 (fun _ _ h => h)
  go_wp2_with fail
  refine (HTR.out _ (HIN.out _ hK2)).mono ?_
  rintro e w3 ⟨tv, nv, rfl, hT, hN, hk3, hto, hno⟩
  have hK3 := hK2.trans hk3 (fun _ _ h => h)
  obtain ⟨tg, tc, rfl, htl, htg⟩ := Sl.some_ hT (by rw [List.length_map]; omega)
  obtain ⟨ng, nc, hnv, hnl, hng⟩ := Sl.some_ hN (by rw [List.length_map]; omega)
  rw [List.length_map, hNl] at hnv
  subst hnv
  rw [List.length_map] at hT ⊢
  have HTT := Lib.hid (fun (W : World) (hk : Kept (fun _ => False) w3 W) => (Sl.kept hk hT (fun _ _ h => h) : InS W (.slice (some ⟨tg, 0, none⟩) T.length tc) T))
  have HNN := Lib.hid (fun (W : World) (hk : Kept (fun _ => False) w3 W) => (Sl.kept hk hN (fun _ _ h => h) : Ints W (.slice (some ⟨ng, 0, none⟩) T.length nc) N))
  have HLL := Lib.hid (fun (W : World) (hk : Kept (fun _ => False) w3 W) => HIN.out W (hK3.trans hk (fun _ _ h => h)))
  clear hk1 hk2 hk3 hK2 hto hno HCK HTR HKW HIN hT hN htl hnl
  have hcmp1 : decide ((l.length : Int) < T.length) = false := decide_eq_false (by omega)
  go_wp2_with fail
  refine (HC2.out _ _ _ (InS.ins (HTT.out _ (Kept.refl _ _)))).mono ?_
  rintro e w4 ⟨⟨p2, rfl⟩, hk4⟩
  go_wp2_with fail
  refine (HOF.out _ _ _ (InS.ins (HTT.out _ hk4))).mono ?_
  rintro e w5 ⟨rv, rfl, hR, hk5, -⟩
  have hk45 := hk4.trans hk5 (fun _ _ h => h)
  go_wp2_with fail
  refine (HSE.out _ _ _ (InS.ins (HTT.out _ hk45))).mono ?_
  rintro e w6 ⟨sv, rfl, hS, hk6, -⟩
  have hk46 := hk45.trans hk6 (fun _ _ h => h)
  have hR6 := Sl.kept hk6 hR (fun _ _ h => h)
  go_wp2_with fail
  refine (HSU.out _ _ _ (InS.ins (HTT.out _ hk46))).mono ?_
  rintro e w7 ⟨pv, p3, rfl, hP, hk7, -⟩
  have hP := hP (by first | rfl | trivial)
  have hk47 := hk46.trans hk7 (fun _ _ h => h)
  have hR7 := Sl.kept hk7 hR6 (fun _ _ h => h)
  have hS7 := Sl.kept hk7 hS (fun _ _ h => h)
  clear hk4 hk5 hk6 hk7 hk45 hk46 hR hR6 hS HC2 HOF HSE HSU
  obtain ⟨sg, sc, hsv, hsl, hsg⟩ := Sl.some_ hS7 (by rw [List.length_map, sec_len]; omega)
  obtain ⟨rg, rc, hrv, hrl, hrg⟩ := Sl.some_ hR7 (by rw [List.length_map, rchL_len]; omega)
  rw [List.length_map, sec_len] at hsv
  rw [List.length_map, rchL_len] at hrv
  subst hsv
  subst hrv
  have HSS := Lib.hid (fun (W : World) (hk : Kept (fun _ => False) w7 W) => (Sl.kept hk hS7 (fun _ _ h => h) : Bls W (.slice (some ⟨sg, 0, none⟩) T.length sc) (secL T)))
  have HRR := Lib.hid (fun (W : World) (hk : Kept (fun _ => False) w7 W) => (Sl.kept hk hR7 (fun _ _ h => h) : Bls W (.slice (some ⟨rg, 0, none⟩) T.length rc) (rchL T)))
  have HPP := Lib.hid (fun (W : World) (hk : Kept (fun _ => False) w7 W) => (Sl.kept hk hP (fun _ _ h => h) : Pts W pv (partsL T)))
  clear hsl hrl hS7 hR7 hP
  go_wp2_with fail
  go_loopw [13] (fun iv wr => ∃ i : Nat, iv = .int .i64 i ∧ i ≤ T.length ∧ Kept (fun _ => False) w7 wr) (fun iv _ => T.length - (intOf iv).toNat)
  case atStart => exact ⟨0, rfl, by omega, Kept.refl _ _⟩
  case round =>
    obtain ⟨i, rfl, hi, hkl⟩ := hrel
    have hk7r := hk47.trans hkl (fun _ _ h => h)
    by_cases hlt : i < T.length
    case neg =>
      obtain rfl : i = T.length := by omega
      have hnd : decide ((T.length : Int) < T.length) = false := decide_eq_false (by omega)
      clear hlt hi
      have HII := Lib.hid (fun uv tv W hU hT => insns_any T T uv tv W hU hT (by omega))
      go_wp2_with fail
      refine (HT2.out _ _ _ (InS.ins (HTT.out _ hk7r))).mono ?_
      rintro e w8 ⟨uv, mv, rfl, hU, hM, hk8, -, -⟩
      have hk38 := hk7r.trans hk8 (fun _ _ h => h)
      clear hM
      go_wp2_with fail
      refine (HII.out _ _ _ (InS.ins hU) (InS.ins (HTT.out _ hk38))).mono ?_
      rintro e w9 ⟨r, rfl, hr, hk9⟩
      have hr : r = true := hr.2 (by first | rfl | trivial)
      subst hr
      go_wp2_with fail
      go_ret
      exact ⟨rfl, hK3.trans (hk38.trans hk9 (fun _ _ h => h)) (fun _ _ h => h)⟩
    case pos =>
      obtain ⟨y, hy⟩ : ∃ y, T[i]? = some y := ⟨_, List.getElem?_eq_getElem hlt⟩
      obtain ⟨k, x, hnk, hlk, eo, ed, es⟩ := HINV.out.num.same i y hy
      have hkl2 := (List.getElem?_eq_some_iff.1 hlk).1
      have n0 := Ints.cell (HNN.out _ hk7r) hnk
      obtain ⟨lg, lo, rfl, hlg, c0, c1, c2, c3, c4⟩ := (HLL.out _ hk7r).at_ hlk
      have hyc : (T.map icells)[i]? = some (icells y) := by rw [List.getElem?_map, hy]; rfl
      have t0 : wr.cell? ⟨tg, i * 5, none⟩ = some (.int .u8 y.op) := Sl.cell (HTT.out _ hk7r) hyc (k := 0) (by omega)
      have t1 : wr.cell? ⟨tg, i * 5 + 1, none⟩ = some (.int .u8 y.dst) := Sl.cell (HTT.out _ hk7r) hyc (k := 1) (by omega)
      have t2 : wr.cell? ⟨tg, i * 5 + 2, none⟩ = some (.int .u8 y.src) := Sl.cell (HTT.out _ hk7r) hyc (k := 2) (by omega)
      have b0 : ((x.op : Int) != y.op) = false := by rw [eo]; simp
      have b1 : ((x.dst : Int) != y.dst) = false := by rw [ed]; simp
      have b2 : ((x.src : Int) != y.src) = false := by rw [es]; simp
      have k1 : decide ((k : Int) < 0) = false := decide_eq_false (by omega)
      have k2 : decide ((l.length : Int) ≤ (k : Int)) = false := decide_eq_false (by omega)
      have k3 : decide (l.length ≤ k) = false := decide_eq_false (by omega)
      have HY := Lib.hid hy
      have HNK := Lib.hid hnk
      clear hy hnk hlk eo ed es hyc
      go_upto_region 18 with fail
      go_cut [166] (fun tv wx => tv = .bool false ∧ wr.drew = wx)
      case first =>
        rcases Nat.eq_zero_or_pos i with rfl | hpos
        · have i0 : decide ((0 : Int) < ((0 : Nat) : Int)) = false := rfl
          refine wp_region_mix0 ([.w, .w, .w, .l, .w, .w, .w, .w, .w, .l, .w, .w, .w, .w, .w, .w, .w, .w, .w, .w, .w, .w, .l, .w, .w, .w] ++ ([.l, .w, .w, .w, .w, .w, .w, .w, .w, .l, .w, .w, .l, .w, .w, .w, .w, .l, .w, .w, .w, .w, .w, .w, .w, .l] ++ ([.w, .w, .l, .w, .w, .w, .w, .l, .w, .w, .w, .w, .w, .w, .w, .l, .w, .w, .l, .w, .w, .w, .w, .l, .w, .w]))) (by kernel_rfl) (by kernel_rfl) ?_
          simp only [List.append_eq, List.cons_append, List.nil_append]
          repeat (first
            | (refine mix_w1 ?_; go_big_quiet_step (fail); refine wpQuiet_nil ?_)
            | (refine mix_l1 rfl ?_; go_big_quiet_step (fail); refine wpQuiet_nil ?_))
          refine mix_done ?_
          go_wp2_with fail
          go_meet
          exact ⟨rfl, rfl⟩
        · obtain ⟨q, rfl⟩ : ∃ q, i = q + 1 := ⟨i - 1, by omega⟩
          obtain ⟨z, hz⟩ : ∃ z, T[q]? = some z := ⟨_, List.getElem?_eq_getElem (by omega)⟩
          obtain ⟨u, xu, hnu, _⟩ := HINV.out.num.same q z hz
          have nu := Ints.cell (HNN.out _ hk7r) hnu
          have huk : u < k := by
            have h1 := (List.getElem?_eq_some_iff.1 hnu).1
            have h2 := (List.getElem?_eq_some_iff.1 HNK.out).1
            have h3 := List.pairwise_iff_getElem.1 HINV.out.num.rise q (q + 1) h1 h2 (by omega)
            rw [(List.getElem?_eq_some_iff.1 hnu).2, (List.getElem?_eq_some_iff.1 HNK.out).2] at h3
            omega
          have u1 : decide ((k : Int) ≤ (u : Int)) = false := decide_eq_false (by omega)
          have u2 : decide (k ≤ u) = false := decide_eq_false (by omega)
          have hcast : ((q + 1 : Nat) : Int) = (q : Int) + 1 := by omega
          have i0 : decide ((0 : Int) < (q : Int) + 1) = true := decide_eq_true (by omega)
          rw [hcast]
          clear hz hnu huk hcast hpos
          refine wp_region_mix0 ([.w, .w, .w, .l, .w, .w, .w, .w, .w, .l, .w, .w, .w, .w, .w, .w, .w, .w, .w, .w, .w, .w, .l, .w, .w, .w] ++ ([.l, .w, .w, .w, .w, .w, .w, .w, .w, .l, .w, .w, .l, .w, .w, .w, .w, .l, .w, .w, .w, .w, .w, .w, .w, .l] ++ ([.w, .w, .l, .w, .w, .w, .w, .l, .w, .w, .w, .w, .w, .w, .w, .l, .w, .w, .l, .w, .w, .w, .w, .l, .w, .w]))) (by kernel_rfl) (by kernel_rfl) ?_
          simp only [List.append_eq, List.cons_append, List.nil_append]
          repeat (first
            | (refine mix_w1 ?_; go_big_quiet_step (fail); refine wpQuiet_nil ?_)
            | (refine mix_l1 rfl ?_; go_big_quiet_step (fail); refine wpQuiet_nil ?_))
          refine mix_done ?_
          go_wp2_with fail
          go_meet
          exact ⟨rfl, rfl⟩
      case rest =>
      obtain ⟨rfl, rfl⟩ := hcut
      obtain ⟨b, hb⟩ := sec_get hlt
      have hkd : Kept (fun _ => False) w7 wr.drew := hkl.drew
      have hkd3 := hk47.trans hkd (fun _ _ h => h)
      have d0 := Bls.cell (HSS.out _ hkd) hb
      have hrch : b = false → (rchL T)[i]? = some true := fun e => by
        rw [rchL_get hlt]
        congr 1
        have := HINV.out.rch i hlt (by rw [hb, e])
        simpa using this
      obtain ⟨rb, hrb⟩ : ∃ rb, (rchL T)[i]? = some rb := ⟨_, List.getElem?_eq_getElem (by rw [rchL_len]; exact hlt)⟩
      have d1 := Bls.cell (HRR.out _ hkd) hrb
      have hbr : b = false → rb = true := fun e => by
        have := hrch e
        rw [hrb] at this
        exact Option.some.inj this
      have hid := no_idle HINV.out.va HINV.out.ok HIDL.out HY.out
      have hyo := HINV.out.ok.at_ HY.out
      have HIS := Lib.hid (fun W => ris_any y 0 W hyo)
      have hpl : (partsL T).length ≤ 2000000 := by rw [parts_len]; have := begins_len T; omega
      have HOO := Lib.hid (fun W hP => of_any (partsL T) pv i W hP hpl)
      have hyc : (T.map icells)[i]? = some (icells y) := by rw [List.getElem?_map, HY.out]; rfl
      have hTd := HTT.out _ hkd3
      have s0 : wr.drew.cell? ⟨tg, i * 5, none⟩ = some (.int .u8 y.op) := Sl.cell hTd hyc (k := 0) (by omega)
      have s1 : wr.drew.cell? ⟨tg, i * 5 + 1, none⟩ = some (.int .u8 y.dst) := Sl.cell hTd hyc (k := 1) (by omega)
      have s2 : wr.drew.cell? ⟨tg, i * 5 + 2, none⟩ = some (.int .u8 y.src) := Sl.cell hTd hyc (k := 2) (by omega)
      have s3 : wr.drew.cell? ⟨tg, i * 5 + 3, none⟩ = some (.int .i16 y.off) := Sl.cell hTd hyc (k := 3) (by omega)
      have s4 : wr.drew.cell? ⟨tg, i * 5 + 4, none⟩ = some (.int .i32 y.imm) := Sl.cell hTd hyc (k := 4) (by omega)
      have hHID := Lib.hid hid
      have HBR := Lib.hid hbr
      clear hb hrch hrb hid hyo n0 c0 c1 c2 c3 c4 t0 t1 t2 b0 b1 b2 k1 k2 k3 hTd hbr
      have hTf := Lib.hid (fun (W : World) (hk : Kept (fun _ => False) w3 W) => (Sl.cell (HTT.out W hk) hyc (k := 3) (by omega) : W.cell? ⟨tg, i * 5 + 3, none⟩ = (icells y)[3]?))
      clear hyc
      generalize isR y 0 = ib at *
      have hcases : (b = true ∨ (b = false ∧ rb = true)) := by
        cases b
        · exact .inr ⟨rfl, HBR.out rfl⟩
        · exact .inl rfl
      clear HBR
      rcases hcases with rfl | ⟨rfl, rfl⟩
      all_goals
        go_wp2_with (go_at_call 12; refine (HOO.out _ (HPP.out _ hkd)).mono ?_; rintro e w8 ⟨rfl, rfl⟩)
        refine (HIS.out _).mono ?_
        rintro e w9 ⟨rfl, hk9⟩
        have hk79 := hkd.trans hk9 (fun _ _ h => h)
        have f3 : w9.cell? ⟨tg, i * 5 + 3, none⟩ = some (.int .i16 y.off) := hTf.out _ (hk47.trans hk79 (fun _ _ h => h))
        cases ib
        case false =>
          go_wp2_with fail
          go_roundw
          case rel => first | exact ⟨i + 1, by go_num, by omega, hk79⟩ | ((repeat apply Exists.intro); exact ⟨⟨i + 1, by go_num, by omega, hk79⟩, rfl⟩)
          case measure => simp [intOf] <;> omega
        case true =>
          have hoff : (y.off == 0) = false := by have := hHID.out; rwa [Bool.true_and] at this
          go_wp2_with fail
          go_roundw
          case rel => first | exact ⟨i + 1, by go_num, by omega, hk79⟩ | ((repeat apply Exists.intro); exact ⟨⟨i + 1, by go_num, by omega, hk79⟩, rfl⟩)
          case measure => simp [intOf] <;> omega

end Go.Proofs.Ytdgniibolfahaaa

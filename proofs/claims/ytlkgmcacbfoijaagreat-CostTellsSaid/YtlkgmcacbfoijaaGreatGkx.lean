import Derived.Test.YtlkgmcacbfoijaaGreatGjx
set_option linter.unusedSimpArgs false
set_option linter.unusedVariables false
namespace Go.Proofs.YtlkgmcacbfoijaaGreat
open Go.RowKit

/-! ### the document's Tell and Worst -/
set_option maxHeartbeats 4000000 in
set_option maxRecDepth 100000 in
theorem rloops_any (l : List In) (a : Option Addr) (c : Nat) (w : World) (h : Ins w (.slice a l.length c) l) (hok : InsOk l) :
    Calls Tryz.prog 21 #[.slice a l.length c] w fun e w' => e = .returned (.int .i64 (costE l)) ∧ Kept (fun _ => False) w w' := by
  have HBA := Lib.hid (fun W hI => rBack_any l a c W hI hok)
  have HDE := Lib.hid (fun W hI => rDepth_any l a c W hI hok)
  have HIN := Lib.hid (fun (W : World) (hk : Kept (fun _ => False) w W) => h.kept hk)
  clear h hok
  obtain ⟨E, hE⟩ : ∃ E, costE l = E := ⟨_, rfl⟩
  rw [hE]
  unfold costE at hE
  by_cases hz : checkI l = 0
  case neg =>
    rw [if_neg hz] at hE
    subst hE
    have hzd : (checkI l != 0) = true := by simpa using hz
    have hzd' : (checkI l == 0) = false := by simpa using hz
    clear hz HDE
    generalize checkI l = r at *
    go_enter Tryz.func21, Tryz.ntmps21
    go_wp2_with fail
    refine (HBA.out w (HIN.out _ (Kept.refl _ w))).mono ?_
    rintro e w1 ⟨⟨p, n, m, rfl, -⟩, hk1⟩
    go_wp2_with fail
    refine bodyPost_ret (v := .int .i64 r) (by simp [results, Tryz.results21, go_sem]) rfl ?_
    exact ⟨rfl, hk1⟩
  case pos =>
  rw [if_pos hz] at hE
  rw [hz] at HBA
  clear hz
  by_cases hd : depthE l = 0
  case neg =>
    rw [if_neg hd] at hE
    subst hE
    have hzd : (depthE l != 0) = true := by simpa using hd
    have hzd' : (depthE l == 0) = false := by simpa using hd
    clear hd
    generalize depthE l = r at *
    go_enter Tryz.func21, Tryz.ntmps21
    go_wp2_with fail
    refine (HBA.out w (HIN.out _ (Kept.refl _ w))).mono ?_
    rintro e w1 ⟨⟨p, n, m, rfl, -⟩, hk1⟩
    go_wp2_with fail
    refine (HDE.out w1 (HIN.out _ hk1)).mono ?_
    rintro e w2 ⟨⟨x, rfl⟩, hk2⟩
    go_wp2_with fail
    refine bodyPost_ret (v := .int .i64 240) (by simp [results, Tryz.results21, go_sem]) rfl ?_
    exact ⟨rfl, hk1.trans hk2 (fun _ _ h => h)⟩
  case pos =>
  rw [if_pos hd] at hE
  rw [hd] at HDE
  clear hd
  by_cases hb : HasBack l l.length
  case pos =>
    rw [@if_pos _ (Classical.propDecidable _) hb] at hE
    subst hE
    have HHB := Lib.hid hb
    clear hb
    go_enter Tryz.func21, Tryz.ntmps21
    go_wp2_with fail
    refine (HBA.out w (HIN.out _ (Kept.refl _ w))).mono ?_
    rintro e w1 ⟨⟨p, n, m, rfl, hn⟩, hk1⟩
    have hn1 := (hn trivial).2 HHB.out
    have hnd : decide ((0 : Int) < n) = true := decide_eq_true (by omega)
    have hnd2 : decide ((n : Int) > 0) = true := decide_eq_true (by omega)
    clear hn
    go_wp2_with fail
    refine (HDE.out w1 (HIN.out _ hk1)).mono ?_
    rintro e w2 ⟨⟨x, rfl⟩, hk2⟩
    go_wp2_with fail
    refine bodyPost_ret (v := .int .i64 240) (by simp [results, Tryz.results21, go_sem]) rfl ?_
    exact ⟨rfl, hk1.trans hk2 (fun _ _ h => h)⟩
  case neg =>
    rw [@if_neg _ (Classical.propDecidable _) hb] at hE
    subst hE
    have HHB := Lib.hid hb
    clear hb
    go_enter Tryz.func21, Tryz.ntmps21
    go_wp2_with fail
    refine (HBA.out w (HIN.out _ (Kept.refl _ w))).mono ?_
    rintro e w1 ⟨⟨p, n, m, rfl, hn⟩, hk1⟩
    obtain rfl : n = 0 := by
      rcases Nat.eq_zero_or_pos n with h | h
      · exact h
      · exact absurd ((hn trivial).1 h) HHB.out
    clear hn
    go_wp2_with fail
    refine (HDE.out w1 (HIN.out _ hk1)).mono ?_
    rintro e w2 ⟨⟨x, rfl⟩, hk2⟩
    go_wp2_with fail
    refine bodyPost_ret (v := .int .i64 0) (by simp [results, Tryz.results21, go_sem]) rfl ?_
    exact ⟨rfl, hk1.trans hk2 (fun _ _ h => h)⟩
set_option maxHeartbeats 8000000 in
set_option maxRecDepth 100000 in
theorem rtell_any (l : List In) (a : Option Addr) (c : Nat) (w : World) (h : Ins w (.slice a l.length c) l) (hok : InsOk l) {V1 V2 V3 rk1 rk2 rk3 : Nat → Nat} (hT : costE l = 0 → Tells longR l V1 rk1 ∧ Tells shortR l V2 rk2 ∧ Tells waysR l V3 rk3) :
    Calls Tryz.prog 9 #[.slice a l.length c] w fun e w' =>
      (∃ x y z : Nat, e = .returned (.tuple #[u64 x, u64 y, u64 z, .int .i64 (costE l)]) ∧ (costE l = 0 → x = V1 0 ∧ y = V2 0 ∧ z = V3 0) ∧ (costE l ≠ 0 → x = 0 ∧ y = 0 ∧ z = 0)) ∧ Kept (fun _ => False) w w' := by
  have HLO := Lib.hid (fun W hI => rloops_any l a c W hI hok)
  have HIN := Lib.hid (fun (W : World) (hk : Kept (fun _ => False) w W) => h.kept hk)
  by_cases hc : costE l = 0
  case neg =>
    have hzd : (costE l != 0) = true := by simpa using hc
    have hzd' : (costE l == 0) = false := by simpa using hc
    have HZ := Lib.hid hc
    clear hc hT h hok
    generalize costE l = r at *
    go_enter Tryz.func9, Tryz.ntmps9
    go_wp2_with fail
    refine (HLO.out w (HIN.out _ (Kept.refl _ w))).mono ?_
    rintro e w1 ⟨rfl, hk1⟩
    go_wp2_with fail
    refine bodyPost_ret (v := .tuple #[u64 0, u64 0, u64 0, .int .i64 r]) (by simp [results, Tryz.results9, go_sem]) rfl ?_
    exact ⟨⟨0, 0, 0, rfl, fun h => absurd h HZ.out, fun _ => ⟨rfl, rfl, rfl⟩⟩, hk1⟩
  case pos =>
  obtain ⟨hz, hnb, hdp⟩ := costE_ok hc
  obtain ⟨lam, hl⟩ := lay_of hz hnb hdp
  obtain ⟨hT1, hT2, hT3⟩ := hT hc
  have HOF := Lib.hid (fun W hI => tof_any l a c W hI hok hz hl hT1 hT2 hT3)
  have hl0 : 0 < l.length := (rch_ok hz .zero).1
  rw [hc] at HLO ⊢
  clear hT h hok hz hnb hdp hl hT1 hT2 hT3 hc
  go_enter Tryz.func9, Tryz.ntmps9
  go_wp2_with fail
  refine (HLO.out w (HIN.out _ (Kept.refl _ w))).mono ?_
  rintro e w1 ⟨rfl, hk1⟩
  have HK1 := Lib.hid hk1
  clear hk1
  go_wp2_with fail
  refine (HOF.out w1 (HIN.out _ HK1.out)).mono ?_
  rintro e w2 ⟨gL, gS, gW, TL, TS, TW, rfl, hTM, hV, hk2⟩
  obtain ⟨e1, e2, e3⟩ := hV 0 .zero
  have c1 := Us.cell hTM.l (i := 0) (by rw [hTM.ll]; exact hl0)
  have c2 := Us.cell hTM.s (i := 0) (by rw [hTM.ls]; exact hl0)
  have c3 := Us.cell hTM.w_ (i := 0) (by rw [hTM.lw]; exact hl0)
  rw [e1] at c1
  rw [e2] at c2
  rw [e3] at c3
  have l1 := Sl.lt hTM.l gL rfl
  have l2 := Sl.lt hTM.s gS rfl
  have l3 := Sl.lt hTM.w_ gW rfl
  have HK2 := Lib.hid (HK1.out.trans hk2 (fun _ _ h => h))
  have hbn := Blk.new w2 60 #[.slice (some ⟨gL, 0, none⟩) l.length l.length, .slice (some ⟨gS, 0, none⟩) l.length l.length, .slice (some ⟨gW, 0, none⟩) l.length l.length]
  have hkn := (Kept.refl (fun _ => False) w2).alloc (.cells #[.slice (some ⟨gL, 0, none⟩) l.length l.length, .slice (some ⟨gS, 0, none⟩) l.length l.length, .slice (some ⟨gW, 0, none⟩) l.length l.length] 60)
  have c1' := (hkn.cell (p := ⟨gL, 0, none⟩) l1 id).trans c1
  have c2' := (hkn.cell (p := ⟨gS, 0, none⟩) l2 id).trans c2
  have c3' := (hkn.cell (p := ⟨gW, 0, none⟩) l3 id).trans c3
  have cb0 := hbn.cell 0
  have cb1 := hbn.cell 1
  have cb2 := hbn.cell 2
  have HKN := Lib.hid hkn
  clear hTM hV hk2 e1 e2 e3 c1 c2 c3 hbn hkn HOF
  go_wp2_with fail
  refine wp_region_mix0 [.w, .l, .w, .l, .w, .l, .w, .l, .w, .l, .w, .l, .w, .w, .w, .w] (by kernel_rfl) (by kernel_rfl) ?_
  refine mix_w1 ?_; go_big_quiet_step (fail); refine wpQuiet_nil ?_
  refine mix_l1 rfl ?_; go_big_quiet_step (fail); refine wpQuiet_nil ?_
  refine mix_w1 ?_; go_big_quiet_step (fail); refine wpQuiet_nil ?_
  refine mix_l1 rfl ?_; go_big_quiet_step (fail); refine wpQuiet_nil ?_
  refine mix_w1 ?_; go_big_quiet_step (fail); refine wpQuiet_nil ?_
  refine mix_l1 rfl ?_; go_big_quiet_step (fail); refine wpQuiet_nil ?_
  refine mix_w1 ?_; go_big_quiet_step (fail); refine wpQuiet_nil ?_
  refine mix_l1 rfl ?_; go_big_quiet_step (fail); refine wpQuiet_nil ?_
  refine mix_w1 ?_; go_big_quiet_step (fail); refine wpQuiet_nil ?_
  refine mix_l1 rfl ?_; go_big_quiet_step (fail); refine wpQuiet_nil ?_
  refine mix_w1 ?_; go_big_quiet_step (fail); refine wpQuiet_nil ?_
  refine mix_l1 rfl ?_; go_big_quiet_step (fail); refine wpQuiet_nil ?_
  refine mix_w1 ?_; go_big_quiet_step (fail); refine wpQuiet_nil ?_
  refine mix_w1 ?_; go_big_quiet_step (fail); refine wpQuiet_nil ?_
  refine mix_w1 ?_; go_big_quiet_step (fail); refine wpQuiet_nil ?_
  refine mix_w1 ?_; go_big_quiet_step (fail); refine wpQuiet_nil ?_
  refine mix_nil ?_
  go_wp2_with fail
  refine bodyPost_ret (v := .tuple #[u64 (V1 0), u64 (V2 0), u64 (V3 0), .int .i64 0]) (by simp [results, Tryz.results9, go_sem]) rfl ?_
  exact ⟨⟨_, _, _, rfl, fun _ => ⟨rfl, rfl, rfl⟩, fun h => absurd rfl h⟩, HK2.out.trans HKN.out.drew (fun _ _ h => h)⟩
set_option maxHeartbeats 16000000 in
set_option maxRecDepth 100000 in
theorem rworst_any (l : List In) (a : Option Addr) (c : Nat) (w : World) (h : Ins w (.slice a l.length c) l) (hok : InsOk l) {V rk : Nat → Nat} (hT : costE l = 0 → Tells longR l V rk ∧ Falls l rk) :
    Calls Tryz.prog 10 #[.slice a l.length c] w fun e w' =>
      (∃ va vn vc, e = .returned (.tuple #[.slice va vn vc, .int .i64 (costE l)]) ∧ (costE l = 0 → Ints w' (.slice va vn vc) (wayG l V (rk 0 + 1) 0)) ∧ (costE l ≠ 0 → va = none ∧ vn = 0 ∧ vc = 0)) ∧ Kept (fun _ => False) w w' := by
  have hlen := hok.len
  have HLO := Lib.hid (fun W hI => rloops_any l a c W hI hok)
  have HIN := Lib.hid (fun (W : World) (hk : Kept (fun _ => False) w W) => h.kept hk)
  by_cases hc : costE l = 0
  case neg =>
    have hzd : (costE l != 0) = true := by simpa using hc
    have hzd' : (costE l == 0) = false := by simpa using hc
    have HZ := Lib.hid hc
    clear hc hT h hok
    generalize costE l = r at *
    go_enter Tryz.func10, Tryz.ntmps10
    go_wp2_with fail
    refine (HLO.out w (HIN.out _ (Kept.refl _ w))).mono ?_
    rintro e w1 ⟨rfl, hk1⟩
    go_wp2_with fail
    refine bodyPost_ret (v := .tuple #[.slice none 0 0, .int .i64 r]) (by simp [results, Tryz.results10, go_sem]) rfl ?_
    exact ⟨⟨_, _, _, rfl, fun h => absurd h HZ.out, fun _ => ⟨rfl, rfl, rfl⟩⟩, hk1⟩
  case pos =>
  obtain ⟨hz, hnb, hdp⟩ := costE_ok hc
  obtain ⟨lam, hl⟩ := lay_of hz hnb hdp
  obtain ⟨hT1, hF⟩ := hT hc
  obtain ⟨V2, rk2, hT2⟩ := tells_of shortR hc
  obtain ⟨V3, rk3, hT3⟩ := tells_of waysR hc
  have HOF := Lib.hid (fun W hI => tof_any l a c W hI hok hz hl hT1 hT2 hT3)
  have HGO := Lib.hid (fun (i : Nat) (x : In) (hr : Rch l i) (hx : l[i]? = some x) (j : Int) (hj : j ∈ nextC i x) => (by
    obtain ⟨hil, hs⟩ := rch_ok hz hr
    obtain ⟨n, e, e2, e3, _⟩ := next_ok hz hx hs hj
    subst e
    have h1 := hF.next i x hr hx (n : Int) hj
    rw [Int.toNat_natCast] at h1
    refine ⟨n, rfl, e2, h1.2, h1.1, ?_⟩
    rcases Nat.lt_or_ge i n with h | h
    · exact h
    · exact absurd ⟨i, hil, x, hx, hr, n, hj, by omega⟩ hnb : ∃ n : Nat, j = n ∧ n < l.length ∧ Rch l n ∧ rk n < rk i ∧ i < n))
  have HAF := Lib.hid (fun i x W hI (hr : Rch l i) (hx : l[i]? = some x) => rafter_any l a c i x W hI hok hx (known_of (check_parts hz).1 hx (rch_ok hz hr).2))
  have HLT := Lib.hid (fun i (hr : Rch l i) => (rch_ok hz hr).1)
  have HVT := Lib.hid hT1.hi
  rw [hc] at HLO ⊢
  clear hT h hok hz hnb hdp hl hT1 hT2 hT3 hc hF
  obtain ⟨W, hW⟩ : ∃ W, wayG l V (rk 0 + 1) 0 = W := ⟨_, rfl⟩
  have HW := Lib.hid hW
  rw [hW]
  clear hW
  go_enter Tryz.func10, Tryz.ntmps10
  go_wp2_with fail
  refine (HLO.out w (HIN.out _ (Kept.refl _ w))).mono ?_
  rintro e w1 ⟨rfl, hk1⟩
  have HK1 := Lib.hid hk1
  clear hk1
  go_wp2_with fail
  refine (HOF.out w1 (HIN.out _ HK1.out)).mono ?_
  rintro e w2 ⟨gL, gS, gW, TL, TS, TW, rfl, hTM, hV, hk2⟩
  have hbn := Blk.new w2 60 #[.slice (some ⟨gL, 0, none⟩) l.length l.length, .slice (some ⟨gS, 0, none⟩) l.length l.length, .slice (some ⟨gW, 0, none⟩) l.length l.length]
  have hkn := (Kept.refl (fun _ => False) w2).alloc (.cells #[.slice (some ⟨gL, 0, none⟩) l.length l.length, .slice (some ⟨gS, 0, none⟩) l.length l.length, .slice (some ⟨gW, 0, none⟩) l.length l.length] 60)
  have H3 := Lib.hid (And.intro (hTM.kept hkn (fun _ h => h.elim)) (And.intro hbn ((HK1.out.trans hk2 (fun _ _ h => h)).trans hkn (fun _ _ h => h))))
  have HTV := Lib.hid (fun i hr => (hV i hr).1)
  clear hTM hV hk2 hbn hkn HOF HLO HK1
  go_wp2_with fail
  generalize hw3 : w2.alloc (.cells #[.slice (some ⟨gL, 0, none⟩) l.length l.length, .slice (some ⟨gS, 0, none⟩) l.length l.length, .slice (some ⟨gW, 0, none⟩) l.length l.length] 60) = w3 at *
  generalize hgb : w2.heap.size = gb at *
  clear hw3 hgb
  go_loopg [6, 7] (rk 0 + 1) (fun k ov iv wr => ∃ (i : Nat) (O : List Int) (ov' : Value), ov' = ov ∧ iv = .int .i64 i ∧ Rch l i ∧ rk i < k ∧ k ≤ rk 0 + 1 ∧ O.length ≤ i ∧ O ++ wayG l V k i = W ∧ Ints wr ov' O ∧ (∀ g, ov'.ownBlock = some g → w3.heap.size ≤ g) ∧ Kept (fun _ => False) w3 wr)
  case atStart => exact ⟨0, [], _, rfl, rfl, .zero, Nat.lt_succ_self _, Nat.le_refl _, by simp, HW.out, Sl.nil _ _ _, fun g hg => by simp [Value.ownBlock] at hg, Kept.refl _ w3⟩
  case round =>
  obtain ⟨i, O, ov, rfl, rfl, hr, hrk, hkb, hol, hway, hO, hown, hK⟩ := hrel
  obtain ⟨x, hx⟩ : ∃ x, l[i]? = some x := ⟨_, List.getElem?_eq_getElem (HLT.out i hr)⟩
  have hil := HLT.out i hr
  obtain ⟨gk', rfl⟩ : ∃ k, gk = k + 1 := ⟨gk - 1, by omega⟩
  have HNN := Lib.hid (fun W' hk => HAF.out i x W' (HIN.out W' hk) hr hx)
  have HGG := Lib.hid (HGO.out i x hr hx)
  have hnl := next_len i x
  have HOO := Lib.hid hO
  have HKR := Lib.hid hK
  have HOW := Lib.hid hown
  have HRK := Lib.hid hrk
  have hlo : O.length < 1073741824 := by omega
  have HPX : Hid (∀ N, nextC i x = N → ∀ j : Nat, pickC V N = some (j : Int) → (O ++ [(i : Int)]) ++ wayG l V gk' j = W) := Lib.hid (fun N hN j hj => by
    have h := hway
    rw [wayG_go hx (by rw [hN]; exact hj)] at h
    rw [← h]
    simp)
  have HPE : Hid (pickC V (nextC i x) = none → O ++ [(i : Int)] = W) := Lib.hid (fun hN => by
    have h := hway
    rw [wayG_end hx hN] at h
    exact h)
  clear hway hO hK hown hr hx hrk
  go_wp2_with (at_builtin; refine wpList_pushI (w := wr) rfl (.tmp 16) (.tmp 18) rfl ov O (i : Int) rfl rfl HOO.out hlo ?_; intro v9 w9 hI9 hk9 hv9)
  have hk09 : Kept (fun _ => False) w3 w9 := HKR.out.trans hk9 (fun k hk e => by have := HOW.out k e; omega)
  have H9 := Lib.hid (And.intro hI9 (And.intro hk09 (fun g hg => by
    rcases hv9 g hg with h | h
    · exact HOW.out g h
    · have := HKR.out.size; omega : ∀ g, v9.ownBlock = some g → w3.heap.size ≤ g)))
  clear hI9 hk9 hv9 hk09 HKR HOO HOW
  go_wp2_with fail
  refine (HNN.out _ (H3.out.2.2.trans H9.out.2.1 (fun _ _ h => h))).mono ?_
  rintro e w6 ⟨na, nc, rfl, hN, hk6, hno⟩
  have HK6 := Lib.hid (H9.out.2.1.trans hk6 (fun _ _ h => h))
  have HI6 := Lib.hid (Sl.kept hk6 H9.out.1 (fun _ _ h => h))
  clear hno hk6 HNN
  cases hNN : nextC i x with
  | nil =>
    rw [hNN] at HPE
    have hRR := HPE.out rfl
    have HRR := Lib.hid hRR
    obtain ⟨oa, oc, hov⟩ := Sl.any HI6.out
    rw [show (List.map icell' (O ++ [(i : Int)])).length = O.length + 1 by simp] at hov
    clear hRR HPE HPX hN
    go_wp2_with fail
    subst hov
    refine bodyPost_ret (v := .tuple #[.slice oa (O.length + 1) oc, .int .i64 0]) (by simp [results, Tryz.results10, go_sem]) rfl ?_
    exact ⟨⟨_, _, _, rfl, fun _ => by rw [← HRR.out]; exact HI6.out, fun h => absurd rfl h⟩, H3.out.2.2.trans HK6.out (fun _ _ h => h)⟩
  | cons j0 r0 =>
    obtain ⟨jn, rfl, hj2⟩ := HGG.out j0 (by rw [hNN]; simp)
    have HGJ := Lib.hid hj2
    rw [hNN] at hN hnl
    have hlq : ((((jn : Int) :: r0).length : Nat) : Int) = ((r0.length : Int) + 1) := by simp
    obtain ⟨ng, ncap, hnv, hnc, hngl⟩ := Sl.some_ hN (by simp)
    rw [List.length_map] at hnv
    cases hnv
    have hn0 := Ints.cell hN (i := 0) (x := (jn : Int)) rfl
    have hTM6 := H3.out.1.kept HK6.out (fun _ h => h.elim)
    have hjl := hj2.1
    cases r0 with
    | nil =>
      have HWY := Lib.hid (HPX.out _ hNN jn rfl)
      clear hj2 HGG HPX HPE hN hTM6 hnc
      go_wp2_with fail
      refine wp_region_mix0 [.w, .w, .w, .w, .w, .l, .w, .w, .l, .w, .l, .w, .l, .w, .w, .l, .w, .l, .w, .w, .w, .l, .w, .w, .l, .w, .l, .w, .l, .w, .w, .l, .w, .l, .w, .w, .w, .w, .l, .w, .w, .l, .w, .w, .w, .w] (by kernel_rfl) (by kernel_rfl) ?_
      refine mix_w1 ?_; go_big_quiet_step (fail); refine wpQuiet_nil ?_
      refine mix_w1 ?_; go_big_quiet_step (fail); refine wpQuiet_nil ?_
      refine mix_w1 ?_; go_big_quiet_step (fail); refine wpQuiet_nil ?_
      refine mix_w1 ?_; go_big_quiet_step (fail); refine wpQuiet_nil ?_
      refine mix_w1 ?_; go_big_quiet_step (fail); refine wpQuiet_nil ?_
      refine mix_l1 rfl ?_; go_big_quiet_step (fail); refine wpQuiet_nil ?_
      refine mix_w1 ?_; go_big_quiet_step (fail); refine wpQuiet_nil ?_
      refine mix_w1 ?_; go_big_quiet_step (fail); refine wpQuiet_nil ?_
      refine mix_l1 rfl ?_; go_big_quiet_step (fail); refine wpQuiet_nil ?_
      refine mix_w1 ?_; go_big_quiet_step (fail); refine wpQuiet_nil ?_
      refine mix_l1 rfl ?_; go_big_quiet_step (fail); refine wpQuiet_nil ?_
      refine mix_w1 ?_; go_big_quiet_step (fail); refine wpQuiet_nil ?_
      refine mix_l1 rfl ?_; go_big_quiet_step (fail); refine wpQuiet_nil ?_
      refine mix_w1 ?_; go_big_quiet_step (fail); refine wpQuiet_nil ?_
      refine mix_w1 ?_; go_big_quiet_step (fail); refine wpQuiet_nil ?_
      refine mix_l1 rfl ?_; go_big_quiet_step (fail); refine wpQuiet_nil ?_
      refine mix_w1 ?_; go_big_quiet_step (fail); refine wpQuiet_nil ?_
      refine mix_l1 rfl ?_; go_big_quiet_step (fail); refine wpQuiet_nil ?_
      refine mix_w1 ?_; go_big_quiet_step (fail); refine wpQuiet_nil ?_
      refine mix_w1 ?_; go_big_quiet_step (fail); refine wpQuiet_nil ?_
      refine mix_w1 ?_; go_big_quiet_step (fail); refine wpQuiet_nil ?_
      refine mix_l1 rfl ?_; go_big_quiet_step (fail); refine wpQuiet_nil ?_
      refine mix_w1 ?_; go_big_quiet_step (fail); refine wpQuiet_nil ?_
      refine mix_w1 ?_; go_big_quiet_step (fail); refine wpQuiet_nil ?_
      refine mix_l1 rfl ?_; go_big_quiet_step (fail); refine wpQuiet_nil ?_
      refine mix_w1 ?_; go_big_quiet_step (fail); refine wpQuiet_nil ?_
      refine mix_l1 rfl ?_; go_big_quiet_step (fail); refine wpQuiet_nil ?_
      refine mix_w1 ?_; go_big_quiet_step (fail); refine wpQuiet_nil ?_
      refine mix_l1 rfl ?_; go_big_quiet_step (fail); refine wpQuiet_nil ?_
      refine mix_w1 ?_; go_big_quiet_step (fail); refine wpQuiet_nil ?_
      refine mix_w1 ?_; go_big_quiet_step (fail); refine wpQuiet_nil ?_
      refine mix_l1 rfl ?_; go_big_quiet_step (fail); refine wpQuiet_nil ?_
      refine mix_w1 ?_; go_big_quiet_step (fail); refine wpQuiet_nil ?_
      refine mix_l1 rfl ?_; go_big_quiet_step (fail); refine wpQuiet_nil ?_
      refine mix_w1 ?_; go_big_quiet_step (fail); refine wpQuiet_nil ?_
      refine mix_w1 ?_; go_big_quiet_step (fail); refine wpQuiet_nil ?_
      refine mix_w1 ?_; go_big_quiet_step (fail); refine wpQuiet_nil ?_
      refine mix_w1 ?_; go_big_quiet_step (fail); refine wpQuiet_nil ?_
      refine mix_l1 rfl ?_; go_big_quiet_step (fail); refine wpQuiet_nil ?_
      refine mix_w1 ?_; go_big_quiet_step (fail); refine wpQuiet_nil ?_
      refine mix_w1 ?_; go_big_quiet_step (fail); refine wpQuiet_nil ?_
      refine mix_l1 rfl ?_; go_big_quiet_step (fail); refine wpQuiet_nil ?_
      refine mix_w1 ?_; go_big_quiet_step (fail); refine wpQuiet_nil ?_
      refine mix_w1 ?_; go_big_quiet_step (fail); refine wpQuiet_nil ?_
      refine mix_w1 ?_; go_big_quiet_step (fail); refine wpQuiet_nil ?_
      refine mix_w1 ?_; go_big_quiet_step (fail); refine wpQuiet_nil ?_
      refine mix_nil ?_
      go_wp2_with fail
      go_roundg gk'
      case measure => omega
      case rel => exact ⟨jn, O ++ [(i : Int)], _, rfl, rfl, HGJ.out.2.1, by have := HRK.out; have := HGJ.out.2.2.1; omega, by omega, by have := HGJ.out.2.2.2; simp; omega, HWY.out, Sl.drew HI6.out, H9.out.2.2, HK6.out.drew⟩
    | cons k0 r1 =>
      have hr1 : r1 = [] := by
        cases r1 with
        | nil => rfl
        | cons _ _ => simp at hnl
      subst hr1
      obtain ⟨kn, rfl, hk2⟩ := HGG.out k0 (by rw [hNN]; simp)
      have HGK := Lib.hid hk2
      have HPK := Lib.hid (HPX.out _ hNN)
      have hn1 := Ints.cell hN (i := 1) (x := (kn : Int)) rfl
      have hkl := hk2.1
      have cj := Us.cell hTM6.l (i := jn) (by rw [hTM6.ll]; exact hjl)
      have ck := Us.cell hTM6.l (i := kn) (by rw [hTM6.ll]; exact hkl)
      rw [HTV.out jn hj2.2.1] at cj
      rw [HTV.out kn hk2.2.1] at ck
      have hbb6 := HK6.out.blk id H3.out.2.1
      have cb0 := hbb6.cell 0
      have l1 := Sl.lt hTM6.l gL rfl
      have hvj := HVT.out jn
      have hvk := HVT.out kn
      unfold top at hvj hvk
      clear hj2 hk2 HGG HPX HPE hN hTM6 hnc hbb6
      by_cases h1 : V jn < V kn
      · have q1 : decide (V jn < V kn) = true := decide_eq_true h1
        have q1' : decide ((V kn : Int) > V jn) = true := decide_eq_true (by omega)
        have HWY := Lib.hid (HPK.out kn (by show some (if V (jn : Int).toNat < V (kn : Int).toNat ∨ _ then _ else _) = _; rw [if_pos (.inl (by simpa using h1))]))
        clear h1 HPK
        go_wp2_with fail
        refine wp_region_mix0 [.w, .w, .w, .w, .w, .l, .w, .w, .l, .w, .l, .w, .l, .w, .w, .l, .w, .l, .w, .w, .w, .l, .w, .w, .l, .w, .l, .w, .l, .w, .w, .l, .w, .l, .w, .w, .w, .w, .l, .w, .w, .l, .w, .w, .w, .w] (by kernel_rfl) (by kernel_rfl) ?_
        refine mix_w1 ?_; go_big_quiet_step (fail); refine wpQuiet_nil ?_
        refine mix_w1 ?_; go_big_quiet_step (fail); refine wpQuiet_nil ?_
        refine mix_w1 ?_; go_big_quiet_step (fail); refine wpQuiet_nil ?_
        refine mix_w1 ?_; go_big_quiet_step (fail); refine wpQuiet_nil ?_
        refine mix_w1 ?_; go_big_quiet_step (fail); refine wpQuiet_nil ?_
        refine mix_l1 rfl ?_; go_big_quiet_step (fail); refine wpQuiet_nil ?_
        refine mix_w1 ?_; go_big_quiet_step (fail); refine wpQuiet_nil ?_
        refine mix_w1 ?_; go_big_quiet_step (fail); refine wpQuiet_nil ?_
        refine mix_l1 rfl ?_; go_big_quiet_step (fail); refine wpQuiet_nil ?_
        refine mix_w1 ?_; go_big_quiet_step (fail); refine wpQuiet_nil ?_
        refine mix_l1 rfl ?_; go_big_quiet_step (fail); refine wpQuiet_nil ?_
        refine mix_w1 ?_; go_big_quiet_step (fail); refine wpQuiet_nil ?_
        refine mix_l1 rfl ?_; go_big_quiet_step (fail); refine wpQuiet_nil ?_
        refine mix_w1 ?_; go_big_quiet_step (fail); refine wpQuiet_nil ?_
        refine mix_w1 ?_; go_big_quiet_step (fail); refine wpQuiet_nil ?_
        refine mix_l1 rfl ?_; go_big_quiet_step (fail); refine wpQuiet_nil ?_
        refine mix_w1 ?_; go_big_quiet_step (fail); refine wpQuiet_nil ?_
        refine mix_l1 rfl ?_; go_big_quiet_step (fail); refine wpQuiet_nil ?_
        refine mix_w1 ?_; go_big_quiet_step (fail); refine wpQuiet_nil ?_
        refine mix_w1 ?_; go_big_quiet_step (fail); refine wpQuiet_nil ?_
        refine mix_w1 ?_; go_big_quiet_step (fail); refine wpQuiet_nil ?_
        refine mix_l1 rfl ?_; go_big_quiet_step (fail); refine wpQuiet_nil ?_
        refine mix_w1 ?_; go_big_quiet_step (fail); refine wpQuiet_nil ?_
        refine mix_w1 ?_; go_big_quiet_step (fail); refine wpQuiet_nil ?_
        refine mix_l1 rfl ?_; go_big_quiet_step (fail); refine wpQuiet_nil ?_
        refine mix_w1 ?_; go_big_quiet_step (fail); refine wpQuiet_nil ?_
        refine mix_l1 rfl ?_; go_big_quiet_step (fail); refine wpQuiet_nil ?_
        refine mix_w1 ?_; go_big_quiet_step (fail); refine wpQuiet_nil ?_
        refine mix_l1 rfl ?_; go_big_quiet_step (fail); refine wpQuiet_nil ?_
        refine mix_w1 ?_; go_big_quiet_step (fail); refine wpQuiet_nil ?_
        refine mix_w1 ?_; go_big_quiet_step (fail); refine wpQuiet_nil ?_
        refine mix_l1 rfl ?_; go_big_quiet_step (fail); refine wpQuiet_nil ?_
        refine mix_w1 ?_; go_big_quiet_step (fail); refine wpQuiet_nil ?_
        refine mix_l1 rfl ?_; go_big_quiet_step (fail); refine wpQuiet_nil ?_
        refine mix_w1 ?_; go_big_quiet_step (fail); refine wpQuiet_nil ?_
        refine mix_w1 ?_; go_big_quiet_step (fail); refine wpQuiet_nil ?_
        refine mix_w1 ?_; go_big_quiet_step (fail); refine wpQuiet_nil ?_
        refine mix_w1 ?_; go_big_quiet_step (fail); refine wpQuiet_nil ?_
        refine mix_l1 rfl ?_; go_big_quiet_step (fail); refine wpQuiet_nil ?_
        refine mix_w1 ?_; go_big_quiet_step (fail); refine wpQuiet_nil ?_
        refine mix_w1 ?_; go_big_quiet_step (fail); refine wpQuiet_nil ?_
        refine mix_l1 rfl ?_; go_big_quiet_step (fail); refine wpQuiet_nil ?_
        refine mix_w1 ?_; go_big_quiet_step (fail); refine wpQuiet_nil ?_
        refine mix_w1 ?_; go_big_quiet_step (fail); refine wpQuiet_nil ?_
        refine mix_w1 ?_; go_big_quiet_step (fail); refine wpQuiet_nil ?_
        refine mix_w1 ?_; go_big_quiet_step (fail); refine wpQuiet_nil ?_
        refine mix_nil ?_
        go_wp2_with fail
        go_roundg gk'
        case measure => omega
        case rel => exact ⟨kn, O ++ [(i : Int)], _, rfl, rfl, HGK.out.2.1, by have := HRK.out; have := HGK.out.2.2.1; omega, by omega, by have := HGK.out.2.2.2; simp; omega, HWY.out, Sl.drew HI6.out, H9.out.2.2, HK6.out.drew⟩
      · have q1 : decide (V jn < V kn) = false := decide_eq_false h1
        have q1' : decide ((V kn : Int) > V jn) = false := decide_eq_false (by omega)
        by_cases h2 : V kn = V jn
        · have q2 : ((V kn : Int) == (V jn : Int)) = true := by rw [h2]; simp
          have q2' : (V kn == V jn) = true := by rw [h2]; simp
          by_cases h3 : kn < jn
          · have q3 : decide (kn < jn) = true := decide_eq_true h3
            have q3' : decide ((kn : Int) < (jn : Int)) = true := decide_eq_true (by omega)
            have HWY := Lib.hid (HPK.out kn (by show some (if V (jn : Int).toNat < V (kn : Int).toNat ∨ _ then _ else _) = _; rw [if_pos (.inr ⟨by simpa using h2, by omega⟩)]))
            clear h1 h2 h3 HPK
            go_wp2_with fail
            refine wp_region_mix0 [.w, .w, .w, .w, .w, .l, .w, .w, .l, .w, .l, .w, .l, .w, .w, .l, .w, .l, .w, .w, .w, .l, .w, .w, .l, .w, .l, .w, .l, .w, .w, .l, .w, .l, .w, .w, .w, .w, .l, .w, .w, .l, .w, .w, .w, .w] (by kernel_rfl) (by kernel_rfl) ?_
            refine mix_w1 ?_; go_big_quiet_step (fail); refine wpQuiet_nil ?_
            refine mix_w1 ?_; go_big_quiet_step (fail); refine wpQuiet_nil ?_
            refine mix_w1 ?_; go_big_quiet_step (fail); refine wpQuiet_nil ?_
            refine mix_w1 ?_; go_big_quiet_step (fail); refine wpQuiet_nil ?_
            refine mix_w1 ?_; go_big_quiet_step (fail); refine wpQuiet_nil ?_
            refine mix_l1 rfl ?_; go_big_quiet_step (fail); refine wpQuiet_nil ?_
            refine mix_w1 ?_; go_big_quiet_step (fail); refine wpQuiet_nil ?_
            refine mix_w1 ?_; go_big_quiet_step (fail); refine wpQuiet_nil ?_
            refine mix_l1 rfl ?_; go_big_quiet_step (fail); refine wpQuiet_nil ?_
            refine mix_w1 ?_; go_big_quiet_step (fail); refine wpQuiet_nil ?_
            refine mix_l1 rfl ?_; go_big_quiet_step (fail); refine wpQuiet_nil ?_
            refine mix_w1 ?_; go_big_quiet_step (fail); refine wpQuiet_nil ?_
            refine mix_l1 rfl ?_; go_big_quiet_step (fail); refine wpQuiet_nil ?_
            refine mix_w1 ?_; go_big_quiet_step (fail); refine wpQuiet_nil ?_
            refine mix_w1 ?_; go_big_quiet_step (fail); refine wpQuiet_nil ?_
            refine mix_l1 rfl ?_; go_big_quiet_step (fail); refine wpQuiet_nil ?_
            refine mix_w1 ?_; go_big_quiet_step (fail); refine wpQuiet_nil ?_
            refine mix_l1 rfl ?_; go_big_quiet_step (fail); refine wpQuiet_nil ?_
            refine mix_w1 ?_; go_big_quiet_step (fail); refine wpQuiet_nil ?_
            refine mix_w1 ?_; go_big_quiet_step (fail); refine wpQuiet_nil ?_
            refine mix_w1 ?_; go_big_quiet_step (fail); refine wpQuiet_nil ?_
            refine mix_l1 rfl ?_; go_big_quiet_step (fail); refine wpQuiet_nil ?_
            refine mix_w1 ?_; go_big_quiet_step (fail); refine wpQuiet_nil ?_
            refine mix_w1 ?_; go_big_quiet_step (fail); refine wpQuiet_nil ?_
            refine mix_l1 rfl ?_; go_big_quiet_step (fail); refine wpQuiet_nil ?_
            refine mix_w1 ?_; go_big_quiet_step (fail); refine wpQuiet_nil ?_
            refine mix_l1 rfl ?_; go_big_quiet_step (fail); refine wpQuiet_nil ?_
            refine mix_w1 ?_; go_big_quiet_step (fail); refine wpQuiet_nil ?_
            refine mix_l1 rfl ?_; go_big_quiet_step (fail); refine wpQuiet_nil ?_
            refine mix_w1 ?_; go_big_quiet_step (fail); refine wpQuiet_nil ?_
            refine mix_w1 ?_; go_big_quiet_step (fail); refine wpQuiet_nil ?_
            refine mix_l1 rfl ?_; go_big_quiet_step (fail); refine wpQuiet_nil ?_
            refine mix_w1 ?_; go_big_quiet_step (fail); refine wpQuiet_nil ?_
            refine mix_l1 rfl ?_; go_big_quiet_step (fail); refine wpQuiet_nil ?_
            refine mix_w1 ?_; go_big_quiet_step (fail); refine wpQuiet_nil ?_
            refine mix_w1 ?_; go_big_quiet_step (fail); refine wpQuiet_nil ?_
            refine mix_w1 ?_; go_big_quiet_step (fail); refine wpQuiet_nil ?_
            refine mix_w1 ?_; go_big_quiet_step (fail); refine wpQuiet_nil ?_
            refine mix_l1 rfl ?_; go_big_quiet_step (fail); refine wpQuiet_nil ?_
            refine mix_w1 ?_; go_big_quiet_step (fail); refine wpQuiet_nil ?_
            refine mix_w1 ?_; go_big_quiet_step (fail); refine wpQuiet_nil ?_
            refine mix_l1 rfl ?_; go_big_quiet_step (fail); refine wpQuiet_nil ?_
            refine mix_w1 ?_; go_big_quiet_step (fail); refine wpQuiet_nil ?_
            refine mix_w1 ?_; go_big_quiet_step (fail); refine wpQuiet_nil ?_
            refine mix_w1 ?_; go_big_quiet_step (fail); refine wpQuiet_nil ?_
            refine mix_w1 ?_; go_big_quiet_step (fail); refine wpQuiet_nil ?_
            refine mix_nil ?_
            go_wp2_with fail
            go_roundg gk'
            case measure => omega
            case rel => exact ⟨kn, O ++ [(i : Int)], _, rfl, rfl, HGK.out.2.1, by have := HRK.out; have := HGK.out.2.2.1; omega, by omega, by have := HGK.out.2.2.2; simp; omega, HWY.out, Sl.drew HI6.out, H9.out.2.2, HK6.out.drew⟩
          · have q3 : decide (kn < jn) = false := decide_eq_false h3
            have q3' : decide ((kn : Int) < (jn : Int)) = false := decide_eq_false (by omega)
            have HWY := Lib.hid (HPK.out jn (by
              show some (if V (jn : Int).toNat < V (kn : Int).toNat ∨ (V (kn : Int).toNat = V (jn : Int).toNat ∧ (kn : Int) < jn) then (kn : Int) else jn) = _
              rw [if_neg]
              rintro (h | ⟨_, h⟩)
              · exact h1 (by simpa using h)
              · omega))
            clear h1 h2 h3 HPK
            go_wp2_with fail
            refine wp_region_mix0 [.w, .w, .w, .w, .w, .l, .w, .w, .l, .w, .l, .w, .l, .w, .w, .l, .w, .l, .w, .w, .w, .l, .w, .w, .l, .w, .l, .w, .l, .w, .w, .l, .w, .l, .w, .w, .w, .w, .l, .w, .w, .l, .w, .w, .w, .w] (by kernel_rfl) (by kernel_rfl) ?_
            refine mix_w1 ?_; go_big_quiet_step (fail); refine wpQuiet_nil ?_
            refine mix_w1 ?_; go_big_quiet_step (fail); refine wpQuiet_nil ?_
            refine mix_w1 ?_; go_big_quiet_step (fail); refine wpQuiet_nil ?_
            refine mix_w1 ?_; go_big_quiet_step (fail); refine wpQuiet_nil ?_
            refine mix_w1 ?_; go_big_quiet_step (fail); refine wpQuiet_nil ?_
            refine mix_l1 rfl ?_; go_big_quiet_step (fail); refine wpQuiet_nil ?_
            refine mix_w1 ?_; go_big_quiet_step (fail); refine wpQuiet_nil ?_
            refine mix_w1 ?_; go_big_quiet_step (fail); refine wpQuiet_nil ?_
            refine mix_l1 rfl ?_; go_big_quiet_step (fail); refine wpQuiet_nil ?_
            refine mix_w1 ?_; go_big_quiet_step (fail); refine wpQuiet_nil ?_
            refine mix_l1 rfl ?_; go_big_quiet_step (fail); refine wpQuiet_nil ?_
            refine mix_w1 ?_; go_big_quiet_step (fail); refine wpQuiet_nil ?_
            refine mix_l1 rfl ?_; go_big_quiet_step (fail); refine wpQuiet_nil ?_
            refine mix_w1 ?_; go_big_quiet_step (fail); refine wpQuiet_nil ?_
            refine mix_w1 ?_; go_big_quiet_step (fail); refine wpQuiet_nil ?_
            refine mix_l1 rfl ?_; go_big_quiet_step (fail); refine wpQuiet_nil ?_
            refine mix_w1 ?_; go_big_quiet_step (fail); refine wpQuiet_nil ?_
            refine mix_l1 rfl ?_; go_big_quiet_step (fail); refine wpQuiet_nil ?_
            refine mix_w1 ?_; go_big_quiet_step (fail); refine wpQuiet_nil ?_
            refine mix_w1 ?_; go_big_quiet_step (fail); refine wpQuiet_nil ?_
            refine mix_w1 ?_; go_big_quiet_step (fail); refine wpQuiet_nil ?_
            refine mix_l1 rfl ?_; go_big_quiet_step (fail); refine wpQuiet_nil ?_
            refine mix_w1 ?_; go_big_quiet_step (fail); refine wpQuiet_nil ?_
            refine mix_w1 ?_; go_big_quiet_step (fail); refine wpQuiet_nil ?_
            refine mix_l1 rfl ?_; go_big_quiet_step (fail); refine wpQuiet_nil ?_
            refine mix_w1 ?_; go_big_quiet_step (fail); refine wpQuiet_nil ?_
            refine mix_l1 rfl ?_; go_big_quiet_step (fail); refine wpQuiet_nil ?_
            refine mix_w1 ?_; go_big_quiet_step (fail); refine wpQuiet_nil ?_
            refine mix_l1 rfl ?_; go_big_quiet_step (fail); refine wpQuiet_nil ?_
            refine mix_w1 ?_; go_big_quiet_step (fail); refine wpQuiet_nil ?_
            refine mix_w1 ?_; go_big_quiet_step (fail); refine wpQuiet_nil ?_
            refine mix_l1 rfl ?_; go_big_quiet_step (fail); refine wpQuiet_nil ?_
            refine mix_w1 ?_; go_big_quiet_step (fail); refine wpQuiet_nil ?_
            refine mix_l1 rfl ?_; go_big_quiet_step (fail); refine wpQuiet_nil ?_
            refine mix_w1 ?_; go_big_quiet_step (fail); refine wpQuiet_nil ?_
            refine mix_w1 ?_; go_big_quiet_step (fail); refine wpQuiet_nil ?_
            refine mix_w1 ?_; go_big_quiet_step (fail); refine wpQuiet_nil ?_
            refine mix_w1 ?_; go_big_quiet_step (fail); refine wpQuiet_nil ?_
            refine mix_l1 rfl ?_; go_big_quiet_step (fail); refine wpQuiet_nil ?_
            refine mix_w1 ?_; go_big_quiet_step (fail); refine wpQuiet_nil ?_
            refine mix_w1 ?_; go_big_quiet_step (fail); refine wpQuiet_nil ?_
            refine mix_l1 rfl ?_; go_big_quiet_step (fail); refine wpQuiet_nil ?_
            refine mix_w1 ?_; go_big_quiet_step (fail); refine wpQuiet_nil ?_
            refine mix_w1 ?_; go_big_quiet_step (fail); refine wpQuiet_nil ?_
            refine mix_w1 ?_; go_big_quiet_step (fail); refine wpQuiet_nil ?_
            refine mix_w1 ?_; go_big_quiet_step (fail); refine wpQuiet_nil ?_
            refine mix_nil ?_
            go_wp2_with fail
            go_roundg gk'
            case measure => omega
            case rel => exact ⟨jn, O ++ [(i : Int)], _, rfl, rfl, HGJ.out.2.1, by have := HRK.out; have := HGJ.out.2.2.1; omega, by omega, by have := HGJ.out.2.2.2; simp; omega, HWY.out, Sl.drew HI6.out, H9.out.2.2, HK6.out.drew⟩
        · have q2 : ((V kn : Int) == (V jn : Int)) = false := beq_eq_false_iff_ne.2 (by omega)
          have q2' : (V kn == V jn) = false := beq_eq_false_iff_ne.2 h2
          have HWY := Lib.hid (HPK.out jn (by
            show some (if V (jn : Int).toNat < V (kn : Int).toNat ∨ (V (kn : Int).toNat = V (jn : Int).toNat ∧ (kn : Int) < jn) then (kn : Int) else jn) = _
            rw [if_neg]
            rintro (h | ⟨h, _⟩)
            · exact h1 (by simpa using h)
            · exact h2 (by simpa using h)))
          clear h1 h2 HPK
          go_wp2_with fail
          refine wp_region_mix0 [.w, .w, .w, .w, .w, .l, .w, .w, .l, .w, .l, .w, .l, .w, .w, .l, .w, .l, .w, .w, .w, .l, .w, .w, .l, .w, .l, .w, .l, .w, .w, .l, .w, .l, .w, .w, .w, .w, .l, .w, .w, .l, .w, .w, .w, .w] (by kernel_rfl) (by kernel_rfl) ?_
          refine mix_w1 ?_; go_big_quiet_step (fail); refine wpQuiet_nil ?_
          refine mix_w1 ?_; go_big_quiet_step (fail); refine wpQuiet_nil ?_
          refine mix_w1 ?_; go_big_quiet_step (fail); refine wpQuiet_nil ?_
          refine mix_w1 ?_; go_big_quiet_step (fail); refine wpQuiet_nil ?_
          refine mix_w1 ?_; go_big_quiet_step (fail); refine wpQuiet_nil ?_
          refine mix_l1 rfl ?_; go_big_quiet_step (fail); refine wpQuiet_nil ?_
          refine mix_w1 ?_; go_big_quiet_step (fail); refine wpQuiet_nil ?_
          refine mix_w1 ?_; go_big_quiet_step (fail); refine wpQuiet_nil ?_
          refine mix_l1 rfl ?_; go_big_quiet_step (fail); refine wpQuiet_nil ?_
          refine mix_w1 ?_; go_big_quiet_step (fail); refine wpQuiet_nil ?_
          refine mix_l1 rfl ?_; go_big_quiet_step (fail); refine wpQuiet_nil ?_
          refine mix_w1 ?_; go_big_quiet_step (fail); refine wpQuiet_nil ?_
          refine mix_l1 rfl ?_; go_big_quiet_step (fail); refine wpQuiet_nil ?_
          refine mix_w1 ?_; go_big_quiet_step (fail); refine wpQuiet_nil ?_
          refine mix_w1 ?_; go_big_quiet_step (fail); refine wpQuiet_nil ?_
          refine mix_l1 rfl ?_; go_big_quiet_step (fail); refine wpQuiet_nil ?_
          refine mix_w1 ?_; go_big_quiet_step (fail); refine wpQuiet_nil ?_
          refine mix_l1 rfl ?_; go_big_quiet_step (fail); refine wpQuiet_nil ?_
          refine mix_w1 ?_; go_big_quiet_step (fail); refine wpQuiet_nil ?_
          refine mix_w1 ?_; go_big_quiet_step (fail); refine wpQuiet_nil ?_
          refine mix_w1 ?_; go_big_quiet_step (fail); refine wpQuiet_nil ?_
          refine mix_l1 rfl ?_; go_big_quiet_step (fail); refine wpQuiet_nil ?_
          refine mix_w1 ?_; go_big_quiet_step (fail); refine wpQuiet_nil ?_
          refine mix_w1 ?_; go_big_quiet_step (fail); refine wpQuiet_nil ?_
          refine mix_l1 rfl ?_; go_big_quiet_step (fail); refine wpQuiet_nil ?_
          refine mix_w1 ?_; go_big_quiet_step (fail); refine wpQuiet_nil ?_
          refine mix_l1 rfl ?_; go_big_quiet_step (fail); refine wpQuiet_nil ?_
          refine mix_w1 ?_; go_big_quiet_step (fail); refine wpQuiet_nil ?_
          refine mix_l1 rfl ?_; go_big_quiet_step (fail); refine wpQuiet_nil ?_
          refine mix_w1 ?_; go_big_quiet_step (fail); refine wpQuiet_nil ?_
          refine mix_w1 ?_; go_big_quiet_step (fail); refine wpQuiet_nil ?_
          refine mix_l1 rfl ?_; go_big_quiet_step (fail); refine wpQuiet_nil ?_
          refine mix_w1 ?_; go_big_quiet_step (fail); refine wpQuiet_nil ?_
          refine mix_l1 rfl ?_; go_big_quiet_step (fail); refine wpQuiet_nil ?_
          refine mix_w1 ?_; go_big_quiet_step (fail); refine wpQuiet_nil ?_
          refine mix_w1 ?_; go_big_quiet_step (fail); refine wpQuiet_nil ?_
          refine mix_w1 ?_; go_big_quiet_step (fail); refine wpQuiet_nil ?_
          refine mix_w1 ?_; go_big_quiet_step (fail); refine wpQuiet_nil ?_
          refine mix_l1 rfl ?_; go_big_quiet_step (fail); refine wpQuiet_nil ?_
          refine mix_w1 ?_; go_big_quiet_step (fail); refine wpQuiet_nil ?_
          refine mix_w1 ?_; go_big_quiet_step (fail); refine wpQuiet_nil ?_
          refine mix_l1 rfl ?_; go_big_quiet_step (fail); refine wpQuiet_nil ?_
          refine mix_w1 ?_; go_big_quiet_step (fail); refine wpQuiet_nil ?_
          refine mix_w1 ?_; go_big_quiet_step (fail); refine wpQuiet_nil ?_
          refine mix_w1 ?_; go_big_quiet_step (fail); refine wpQuiet_nil ?_
          refine mix_w1 ?_; go_big_quiet_step (fail); refine wpQuiet_nil ?_
          refine mix_nil ?_
          go_wp2_with fail
          go_roundg gk'
          case measure => omega
          case rel => exact ⟨jn, O ++ [(i : Int)], _, rfl, rfl, HGJ.out.2.1, by have := HRK.out; have := HGJ.out.2.2.1; omega, by omega, by have := HGJ.out.2.2.2; simp; omega, HWY.out, Sl.drew HI6.out, H9.out.2.2, HK6.out.drew⟩

end Go.Proofs.YtlkgmcacbfoijaaGreat


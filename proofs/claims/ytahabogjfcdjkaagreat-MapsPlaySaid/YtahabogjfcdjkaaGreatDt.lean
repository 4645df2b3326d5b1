import Derived.Test.YtahabogjfcdjkaaGreatDs
set_option linter.unusedSimpArgs false
set_option linter.unusedVariables false
namespace Go.Proofs.YtahabogjfcdjkaaGreat
open Go.RowKit

theorem naI : ∀ w, (isAgg 3).run Tryz.prog w = .ok false w := fun w => by kernel_rfl
theorem naU : ∀ w, (isAgg 40).run Tryz.prog w = .ok false w := fun w => by kernel_rfl
theorem naB : ∀ w, (isAgg 39).run Tryz.prog w = .ok false w := fun w => by kernel_rfl
def stepC (s : Hs) (kv vv : Value) : Array Value := #[.int .i64 s.what, .int .i64 s.n, kv, vv, .int .u64 s.flags]
/-- what a step leaves behind -/
theorem val_le {w : World} {x : Loc} {S S0 : MS} {L : List Rg} {k : List UInt8} (h : Mp w x S0 L) : (valL S (L.map Rg.see) k).length ≤ 1000000 := by
  unfold valL
  split
  · simp
  · split
    · simp
    · rename_i id _
      rw [List.getElem?_map]
      cases hi : L[(id - 1).toNat]? with
      | none => simp
      | some r => exact (h.mem.rg r (List.mem_of_getElem? hi)).2.2
def After (w : World) (x : Loc) (y : RLoc) (L M : List Rg) (w' : World) : Prop := ∃ (x' : Loc) (y' : RLoc) (S' R' : MS) (L' M' : List Rg), x'.q = x.q ∧ y'.q = y.q ∧ x'.mp = x.mp ∧ y'.mp = y.mp ∧
  Tl w w' x' y' S' R' L' M' (fun n => fpMp x L n ∨ fpR y M n) ∧ Rel S' R' (L'.map Rg.see) ∧ M'.map Rg.see = L'.map Rg.see ∧ L'.length ≤ L.length + 1
theorem Tl.base {b b' w : World} {x : Loc} {y : RLoc} {S R : MS} {L M : List Rg} {F : Nat → Prop} (h : Tl b' w x y S R L M F) (hk : Kept (fun _ => False) b b') : Tl b w x y S R L M F :=
  ⟨h.p, h.r, h.ap, fun n hn => (h.fx n hn).imp id (Nat.le_trans hk.size), fun n hn => (h.fy n hn).imp id (Nat.le_trans hk.size), (hk.mono (fun _ _ e => e.elim)).trans h.kp (fun _ _ e => e)⟩
theorem Tl.start {w b : World} {x : Loc} {y : RLoc} {S R : MS} {L M : List Rg} {F : Nat → Prop} (h : Tl w w x y S R L M F) (hk : Kept (fun _ => False) w b) : Tl b b x y S R L M (fun n => fpMp x L n ∨ fpR y M n) :=
  ⟨h.p.quiet hk, h.r.quiet hk, h.ap, fun n hn => .inl (.inl hn), fun n hn => .inl (.inr hn), Kept.refl _ _⟩
theorem seeU_le (S : MS) (C : List See) (k l : List UInt8) (flags : Int) : (seeU S C k l flags).length ≤ C.length + 1 := by
  unfold seeU upC
  split
  · split
    · omega
    · split
      · rw [List.length_modify]; omega
      · simp
  · omega

set_option maxHeartbeats 20000000 in
set_option maxRecDepth 100000 in
theorem does_set (x : Loc) (y : RLoc) (S R : MS) (L M : List Rg) (s : Hs) (kv0 vv0 : Value) (w : World) (hT0 : Tl w w x y S R L M (fun n => fpMp x L n ∨ fpR y M n)) (hR0 : Rel S R (L.map Rg.see)) (hM0 : M.map Rg.see = L.map Rg.see)
    (hKr0 : Raw w kv0 s.k) (hVr0 : Raw w vv0 s.v) (hkx : 0 < s.k.length → ∀ g, kv0.ownBlock = some g → ¬ (fpMp x L g ∨ fpR y M g)) (hvx : 0 < s.v.length → ∀ g, vv0.ownBlock = some g → ¬ (fpMp x L g ∨ fpR y M g)) (hkl : s.k.length ≤ 100) (hvl : s.v.length ≤ 400)
    (hfl : 0 ≤ s.flags ∧ s.flags < 18446744073709551616) (hLl : L.length < 999) (hw : s.what = 4) :
    Calls Tryz.prog 10 #[.pointer (some ⟨x.q, 0, none⟩), .pointer (some ⟨y.q, 0, none⟩), .agg (stepC s kv0 vv0)] w fun e w' => e = .returned (.bool true) ∧ After w x y L M w' := by
  obtain ⟨u0, hU0, hU1, hU2, hU3⟩ := info_parts infoU8
  have hkA := (Kept.refl (fun _ => False) w).alloc (.cells (stepC s kv0 vv0) 42)
  have hBX := Blk.new w 42 (stepC s kv0 vv0)
  have hbx0 : ∀ n, fpMp x L n ∨ fpR y M n → n ≠ w.heap.size := fun n hn e => by
    rcases hn with h | h
    · have := hT0.p.lt h; omega
    · have := hT0.r.lt h; omega
  have HM : M.length = L.length := by have := congrArg List.length hM0; simpa using this
  obtain ⟨kA, kC, rfl, hkb⟩ := id hKr0
  obtain ⟨vA, vC, rfl, hvb⟩ := id hVr0
  have HKR := Lib.hid (hKr0.quiet hkA)
  have HVR := Lib.hid (hVr0.quiet hkA)
  have HMM := Lib.hid HM
  have HT1 := Lib.hid (hT0.start hkA)
  have HRL := Lib.hid (And.intro hR0 hM0)
  have HKX := Lib.hid hkx
  have HVX := Lib.hid hvx
  clear hKr0 hVr0 hT0 hR0 hM0 HM hkx hvx hkb hvb
  go_enter Tryz.func10, Tryz.ntmps10
  go_wp2_with fail
  have HKA := Lib.hid hkA
  have HBX := Lib.hid hbx0
  clear hkA hbx0
  generalize w.alloc (.cells (stepC s (.slice kA s.k.length kC) (.slice vA s.v.length vC)) 42) = b at *
  generalize w.heap.size = g5 at *
  generalize hkv0 : Value.slice kA s.k.length kC = kv0 at *
  generalize hvv0 : Value.slice vA s.v.length vC = vv0 at *
  have hL0 : ∀ w' : World, Blk w' g5 42 (stepC s kv0 vv0) → w'.cell? ⟨g5, 2, none⟩ = some kv0 ∧ w'.cell? ⟨g5, 3, none⟩ = some vv0 := fun w' hb => ⟨by rw [hb.cell]; rfl, by rw [hb.cell]; rfl⟩
  refine wp_region_mix [.w, .l, .k, .w, .l, .t, .w, .w] (by kernel_rfl) (by kernel_rfl) (fun w' => Blk w' g5 42 (stepC s kv0 vv0)) ?_
  have hBd := hBX.drew
  refine mix_w1 ?_; go_big_quiet_step (fail); refine wpQuiet_nil ?_
  refine mix_load1 hBd rfl 39 _ rfl naB ⟨g5, 2, none⟩ kv0 rfl (fun w' hb => (hL0 w' hb).1) ?_
  try simp only [Act.put, List.setIfInBounds_toArray, List.set_cons_succ, List.set_cons_zero]
  refine mix_k (by exact hBd) fun Q' hQ' => ?_
  refine wpList_appendRaw rfl _ _ 39 rfl Tryz.underlying39 hU0 hU1 hU2 hU3 (by decide) kv0 s.k rfl rfl (HKR.out.quiet (Kept.drew (Kept.refl _ b))) (by omega) ?_
  intro kv w1 hBk hk1 hok1
  refine hQ' _ _ (hk1.blk (fun e => e) hBd) ?_
  clear hQ' Q'
  try simp only [Act.put, List.setIfInBounds_toArray, List.set_cons_succ, List.set_cons_zero]
  have hb1 := hk1.blk (fun e => e) hBd
  refine mix_w1 ?_; go_big_quiet_step (fail); refine wpQuiet_nil ?_
  refine mix_load1 hb1 rfl 39 _ rfl naB ⟨g5, 3, none⟩ vv0 rfl (fun w' hb => (hL0 w' hb).2) ?_
  try simp only [Act.put, List.setIfInBounds_toArray, List.set_cons_succ, List.set_cons_zero]
  have hkb1 := (Kept.drew (Kept.refl (fun _ => False) b)).trans hk1 (fun _ _ e => e)
  refine mix_t fun Q' hQ' => ?_
  refine wpList_appendRaw rfl _ _ 39 rfl Tryz.underlying39 hU0 hU1 hU2 hU3 (by decide) vv0 s.v rfl rfl (HVR.out.quiet hkb1) (by omega) ?_
  intro vv w2 hBv hk2 hov2
  refine hQ' _ _ ?_
  clear hQ' Q'
  try simp only [Act.put, List.setIfInBounds_toArray, List.set_cons_succ, List.set_cons_zero]
  have hkb2 := hkb1.trans hk2 (fun _ _ e => e)
  have hT2 := HT1.out.quiet hkb2
  have hszb := hkb1.size
  have hdz : b.drew.heap.size = b.heap.size := rfl
  have hCk : Cp b w2 x y L M kv s.k := ⟨hBk.kept hk2 (fun _ _ e => e), HT1.out.new (fun n hn => by have := hok1 n hn; omega)⟩
  have hCv : Cp b w2 x y L M vv s.v := ⟨hBv, HT1.out.new (fun n hn => by have := hov2 n hn; omega)⟩
  have hne : ∀ n, kv.ownBlock = some n → vv.ownBlock ≠ some n := fun n h1 h2 => by
    have := hov2 n h2
    have := hBk.lt n h1
    omega
  have HCK := Lib.hid hCk
  have HCV := Lib.hid hCv
  have HNE := Lib.hid hne
  have HT2 := Lib.hid hT2
  have hB2 := hkb2.blk (fun e => e) hBX
  have HB2 := Lib.hid hB2
  have c0 : w2.cell? ⟨g5, 0, none⟩ = some (.int .i64 s.what) := by rw [hB2.cell]; rfl
  have c1 : w2.cell? ⟨g5, 1, none⟩ = some (.int .i64 s.n) := by rw [hB2.cell]; rfl
  have c4 : w2.cell? ⟨g5, 4, none⟩ = some (.int .u64 s.flags) := by rw [hB2.cell]; rfl
  rw [hw] at c0
  clear hT2 hCk hCv hne hBk hBv hk1 hok1 hb1 hkb1 hk2 hov2 hkb2 hszb hdz hBd hB2
  repeat (refine mix_w1 ?_; go_big_quiet_step (fail); refine wpQuiet_nil ?_)
  refine mix_done ?_
  go_wp2_with fail
  refine wp_region_mix [.w, .w, .l, .w, .l, .w, .k, .w, .w, .l, .w, .l, .w, .t, .w, .w] (by kernel_rfl) (by kernel_rfl) (fun w' => Blk w' g5 42 (stepC s kv0 vv0)) ?_
  have hB3 := HB2.out.drew
  refine mix_w1 ?_; go_big_quiet_step (fail); refine wpQuiet_nil ?_
  refine mix_w1 ?_; go_big_quiet_step (fail); refine wpQuiet_nil ?_
  refine mix_load1 hB3 rfl 3 _ rfl naI ⟨g5, 1, none⟩ (.int .i64 s.n) rfl (fun w' hb => by rw [hb.cell]; rfl) ?_
  try simp only [Act.put, List.setIfInBounds_toArray, List.set_cons_succ, List.set_cons_zero]
  refine mix_w1 ?_; go_big_quiet_step (fail); refine wpQuiet_nil ?_
  refine mix_load1 hB3 rfl 40 _ rfl naU ⟨g5, 4, none⟩ (.int .u64 s.flags) rfl (fun w' hb => by rw [hb.cell]; rfl) ?_
  try simp only [Act.put, List.setIfInBounds_toArray, List.set_cons_succ, List.set_cons_zero]
  refine mix_w1 ?_; go_big_quiet_step (fail); refine wpQuiet_nil ?_
  refine mix_k (by exact hB3) fun Q' hQ' => ?_
  go_wp2_with fail
  have hpl := HRL.out.1.pl
  refine (mset_any x S L s.n (wrap64 s.flags) _ HT2.out.drew.p (by omega)).mono ?_
  rintro e w3 ⟨rfl, hP3, hk3⟩
  have hk3' := hk3.mono (G := fun n => fpMp x L n) (fun n _ e => .inr (.inr (.inl e)))
  have hT3 := HT2.out.drew.px hP3 (fun n hn => .inl hn) hk3'
  have hB4 := hk3'.blk (fun e => HBX.out _ (.inl e) rfl) hB3
  have hCk3 := HCK.out.drew.px (x2 := x) (L2 := L) hk3' (fun n hn => .inl hn)
  have hCv3 := HCV.out.drew.px (x2 := x) (L2 := L) hk3' (fun n hn => .inl hn)
  go_wp2_with fail
  refine hQ' _ _ hB4 ?_
  clear hQ' Q'
  refine mix_w1 ?_; go_big_quiet_step (fail); refine wpQuiet_nil ?_
  refine mix_w1 ?_; go_big_quiet_step (fail); refine wpQuiet_nil ?_
  refine mix_load1 hB4 rfl 3 _ rfl naI ⟨g5, 1, none⟩ (.int .i64 s.n) rfl (fun w' hb => by rw [hb.cell]; rfl) ?_
  try simp only [Act.put, List.setIfInBounds_toArray, List.set_cons_succ, List.set_cons_zero]
  refine mix_w1 ?_; go_big_quiet_step (fail); refine wpQuiet_nil ?_
  refine mix_load1 hB4 rfl 40 _ rfl naU ⟨g5, 4, none⟩ (.int .u64 s.flags) rfl (fun w' hb => by rw [hb.cell]; rfl) ?_
  try simp only [Act.put, List.setIfInBounds_toArray, List.set_cons_succ, List.set_cons_zero]
  refine mix_w1 ?_; go_big_quiet_step (fail); refine wpQuiet_nil ?_
  refine mix_t fun Q' hQ' => ?_
  go_wp2_with fail
  refine (rset_any y R M s.n (wrap64 s.flags) _ hT3.r).mono ?_
  rintro e w5 ⟨rfl, hP5, hk5⟩
  have hk5' := hk5.mono (G := fun n => fpR y M n) (fun n _ e => .inr (.inr (.inl e)))
  have hT5 := hT3.ry hP5 (fun n hn => .inl hn) hk5'
  have hCk5 := hCk3.ry (y2 := y) (M2 := M) hk5' (fun n hn => .inl hn)
  have hCv5 := hCv3.ry (y2 := y) (M2 := M) hk5' (fun n hn => .inl hn)
  have ecd : setC R s.n (wrap64 s.flags) = setC S s.n (wrap64 s.flags) := by unfold setC; rw [HRL.out.1.d, HRL.out.1.pg]
  rw [ecd]
  obtain ⟨x5, y5, S5, R5, L5, M5, ex, ey, ex2, ey2, hT5, hRl5, hSe5, hLe5, hCk5, hCv5⟩ : ∃ (x5 : Loc) (y5 : RLoc) (S5 R5 : MS) (L5 M5 : List Rg), x5.q = x.q ∧ y5.q = y.q ∧ x5.mp = x.mp ∧ y5.mp = y.mp ∧ Tl b w5 x5 y5 S5 R5 L5 M5 (fun n => fpMp x L n ∨ fpR y M n) ∧ Rel S5 R5 (L5.map Rg.see) ∧ M5.map Rg.see = L5.map Rg.see ∧ L5.length ≤ L.length + 1 ∧ Cp b w5 x5 y5 L5 M5 kv s.k ∧ Cp b w5 x5 y5 L5 M5 vv s.v :=
    ⟨x, y, _, _, L, M, rfl, rfl, rfl, rfl, hT5, HRL.out.1.set _ _, HRL.out.2, by omega, hCk5, hCv5⟩
  clear HRL HCK HCV HT2 HB2 HT1
  clear hpl hk3 hk3' hT3 hB3 hB4 hCk3 hCv3 hP3 hk5 hk5' ecd
  go_wp2_with fail
  repeat (refine mix_w1 ?_; go_big_quiet_step (fail); refine wpQuiet_nil ?_)
  refine mix_done ?_
  go_wp2_with fail
  refine (spoil_any kv s.k _ hCk5.bs (by omega)).mono ?_
  rintro e w6 ⟨rfl, hk6⟩
  have hT6 := hT5.spoil hCk5.own hk6
  have hCv6 := hCv5.spoil hk6 HNE.out
  clear hT5 hCk5 hCv5 hk6
  go_wp2_with fail
  refine (spoil_any vv s.v _ hCv6.bs (by omega)).mono ?_
  rintro e w7 ⟨rfl, hk7⟩
  have hT7 := hT6.spoil hCv6.own hk7
  clear hT6 hCv6 hk7 HNE
  have hcb : ∀ w', Kept (fun n => fpMp x L n ∨ fpR y M n) b w' → w'.cell? ⟨g5, 2, none⟩ = some kv0 := fun w' hk => by rw [(hk.blk (fun e => HBX.out _ e rfl) hBX).cell]; rfl
  have HCB := Lib.hid hcb
  clear hcb hBX hL0 c0 c1 c4
  have hc2 := HCB.out w7 hT7.kp
  have h8 := mlook_any x5 S5 L5 kv0 s.k w7 hT7.p (hT7.raw HKR.out HKX.out) hRl5
  rw [ex] at h8
  have H8 := Lib.hid h8
  clear h8
  go_wp2_with fail
  refine H8.out.mono ?_
  rintro e w8 ⟨rfl, hk8⟩
  have hT8 := hT7.quiet hk8
  clear hT7 hk8 hc2 H8
  have hc2 := HCB.out w8 hT8.kp
  have h9 := rlook_any y5 S5 R5 M5 kv0 s.k w8 hT8.r hRl5 (hT8.raw HKR.out HKX.out)
  rw [ey] at h9
  have H9 := Lib.hid h9
  clear h9
  go_wp2_with fail
  refine H9.out.mono ?_
  rintro e w9 ⟨rfl, hk9⟩
  have hT9 := hT8.quiet hk9
  clear hT8 hk9 hc2 H9
  have hc2 := HCB.out w9 hT9.kp
  have ha := mval_any x5 S5 L5 kv0 s.k w9 hT9.p (hT9.raw HKR.out HKX.out) hRl5 rfl
  rw [ex] at ha
  have HA := Lib.hid ha
  clear ha
  go_wp2_with fail
  refine HA.out.mono ?_
  rintro e wa ⟨ov1, rfl, hv1, ho1, hka⟩
  have hTa := hT9.quiet hka
  have hn1 := hT9.new ho1
  clear hT9 hka hc2 HA
  have hc2 := HCB.out wa hTa.kp
  have hb := rval_any y5 S5 R5 M5 kv0 s.k wa hTa.r hRl5 hSe5 (hTa.raw HKR.out HKX.out)
  rw [ey] at hb
  have HB := Lib.hid hb
  clear hb
  go_wp2_with fail
  refine HB.out.mono ?_
  rintro e wb ⟨ov2, rfl, hv2, ho2, hkb⟩
  have hTb := hTa.quiet hkb
  have hv1b : Bs wb ov1 (valL S5 (L5.map Rg.see) s.k) := hv1.kept hkb (fun _ _ e => e)
  clear hTa hkb hc2 HB hv1 ho1 ho2
  have hc := mkeysB_any x5 S5 L5 wb hTb.p hRl5
  rw [ex] at hc
  have HC := Lib.hid hc
  clear hc
  go_wp2_with fail
  refine HC.out.mono ?_
  rintro e wc ⟨ov3, T1, rfl, hs3, hb3, ht3, hkc⟩
  have hTc := hTb.quiet hkc
  have hv1c := hv1b.kept hkc (fun _ _ e => e)
  have hv2c := hv2.kept hkc (fun _ _ e => e)
  clear hTb HC hv1b hv2 hkc
  have hd := rkeysB_any y5 S5 R5 M5 wc hTc.r hRl5
  rw [ey] at hd
  have HD := Lib.hid hd
  clear hd
  go_wp2_with fail
  refine HD.out.mono ?_
  rintro e wd ⟨ov4, T2, rfl, hs4, hb4, ht4, hkd⟩
  have hTd := hTc.quiet hkd
  have hv1d : Bs wd ov1 (valL S5 (L5.map Rg.see) s.k) := hv1c.kept hkd (fun _ _ e => e)
  have hv2d : Bs wd ov2 (valL S5 (L5.map Rg.see) s.k) := hv2c.kept hkd (fun _ _ e => e)
  have hs3d := hs3.kept hkd (fun _ _ e => e)
  have hb3d : ∀ z ∈ T1, By wd z.1 z.2 := fun z hz => (hb3 z hz).kept hkd (fun _ _ e => e)
  have hBy := hbytes_any ov1 ov2 _ _ wd hv1d.by_ hv2d.by_
  rw [show (valL S5 (L5.map Rg.see) s.k == valL S5 (L5.map Rg.see) s.k) = true by simp] at hBy
  have hlen : T1.length ≤ 1000000 := by
    have h1 : T1.length = R5.ent.length := by have := congrArg List.length ht3; simpa using this
    have h2 := hRl5.len
    have h3 := hRl5.few
    have h4 := hRl5.en
    omega
  have hLs := fun w' (hk : Kept (fun _ => False) wd w') => hlists_any ov3 ov4 T1 T2 w' (hs3d.kept hk (fun _ _ e => e)) (fun z hz => (hb3d z hz).kept hk (fun _ _ e => e)) (hs4.kept hk (fun _ _ e => e)) (fun z hz => (hb4 z hz).kept hk (fun _ _ e => e)) (ht3.trans ht4.symm) hlen
  have hvl1 := val_le (k := s.k) (S := S5) hTd.p
  have HBY := Lib.hid hBy
  have HLS := Lib.hid hLs
  clear hTc HD hv1c hv2c hs3 hb3 hs4 hb4 ht3 ht4 hkd hs3d hb3d hBy hLs hlen hv2d
  go_wp2_with fail
  refine HBY.out.mono ?_
  rintro e we ⟨rfl, rfl⟩
  go_wp2_with fail
  refine (HLS.out _ (Kept.refl _ _)).mono ?_
  rintro e wf ⟨rfl, hkf⟩
  have hTf := hTd.quiet hkf
  have hv1f : Bs wf ov1 (valL S5 (L5.map Rg.see) s.k) := hv1d.kept hkf (fun _ _ e => e)
  clear hTd hv1d hkf HBY HLS
  go_wp2_with fail
  refine (spoil_any ov1 _ _ hv1f hvl1).mono ?_
  rintro e wg ⟨rfl, hkg⟩
  have hTg := hTf.spoil hn1 hkg
  go_wp2_with fail
  go_ret
  exact ⟨rfl, x5, y5, S5, R5, L5, M5, ex, ey, ex2, ey2, hTg.base HKA.out, hRl5, hSe5, hLe5⟩

set_option maxHeartbeats 20000000 in
set_option maxRecDepth 100000 in
theorem does_upd0 (x : Loc) (y : RLoc) (S R : MS) (L M : List Rg) (s : Hs) (kv0 vv0 : Value) (w : World) (hT0 : Tl w w x y S R L M (fun n => fpMp x L n ∨ fpR y M n)) (hR0 : Rel S R (L.map Rg.see)) (hM0 : M.map Rg.see = L.map Rg.see)
    (hKr0 : Raw w kv0 s.k) (hVr0 : Raw w vv0 s.v) (hkx : 0 < s.k.length → ∀ g, kv0.ownBlock = some g → ¬ (fpMp x L g ∨ fpR y M g)) (hvx : 0 < s.v.length → ∀ g, vv0.ownBlock = some g → ¬ (fpMp x L g ∨ fpR y M g)) (hkl : s.k.length ≤ 100) (hvl : s.v.length ≤ 400)
    (hfl : 0 ≤ s.flags ∧ s.flags < 18446744073709551616) (hLl : L.length < 999) (hw : s.what = 0) :
    Calls Tryz.prog 10 #[.pointer (some ⟨x.q, 0, none⟩), .pointer (some ⟨y.q, 0, none⟩), .agg (stepC s kv0 vv0)] w fun e w' => e = .returned (.bool true) ∧ After w x y L M w' := by
  obtain ⟨u0, hU0, hU1, hU2, hU3⟩ := info_parts infoU8
  have hkA := (Kept.refl (fun _ => False) w).alloc (.cells (stepC s kv0 vv0) 42)
  have hBX := Blk.new w 42 (stepC s kv0 vv0)
  have hbx0 : ∀ n, fpMp x L n ∨ fpR y M n → n ≠ w.heap.size := fun n hn e => by
    rcases hn with h | h
    · have := hT0.p.lt h; omega
    · have := hT0.r.lt h; omega
  have HM : M.length = L.length := by have := congrArg List.length hM0; simpa using this
  obtain ⟨kA, kC, rfl, hkb⟩ := id hKr0
  obtain ⟨vA, vC, rfl, hvb⟩ := id hVr0
  have HKR := Lib.hid (hKr0.quiet hkA)
  have HVR := Lib.hid (hVr0.quiet hkA)
  have HMM := Lib.hid HM
  have HT1 := Lib.hid (hT0.start hkA)
  have HRL := Lib.hid (And.intro hR0 hM0)
  have HKX := Lib.hid hkx
  have HVX := Lib.hid hvx
  clear hKr0 hVr0 hT0 hR0 hM0 HM hkx hvx hkb hvb
  go_enter Tryz.func10, Tryz.ntmps10
  go_wp2_with fail
  have HKA := Lib.hid hkA
  have HBX := Lib.hid hbx0
  clear hkA hbx0
  generalize w.alloc (.cells (stepC s (.slice kA s.k.length kC) (.slice vA s.v.length vC)) 42) = b at *
  generalize w.heap.size = g5 at *
  generalize hkv0 : Value.slice kA s.k.length kC = kv0 at *
  generalize hvv0 : Value.slice vA s.v.length vC = vv0 at *
  have hL0 : ∀ w' : World, Blk w' g5 42 (stepC s kv0 vv0) → w'.cell? ⟨g5, 2, none⟩ = some kv0 ∧ w'.cell? ⟨g5, 3, none⟩ = some vv0 := fun w' hb => ⟨by rw [hb.cell]; rfl, by rw [hb.cell]; rfl⟩
  refine wp_region_mix [.w, .l, .k, .w, .l, .t, .w, .w] (by kernel_rfl) (by kernel_rfl) (fun w' => Blk w' g5 42 (stepC s kv0 vv0)) ?_
  have hBd := hBX.drew
  refine mix_w1 ?_; go_big_quiet_step (fail); refine wpQuiet_nil ?_
  refine mix_load1 hBd rfl 39 _ rfl naB ⟨g5, 2, none⟩ kv0 rfl (fun w' hb => (hL0 w' hb).1) ?_
  try simp only [Act.put, List.setIfInBounds_toArray, List.set_cons_succ, List.set_cons_zero]
  refine mix_k (by exact hBd) fun Q' hQ' => ?_
  refine wpList_appendRaw rfl _ _ 39 rfl Tryz.underlying39 hU0 hU1 hU2 hU3 (by decide) kv0 s.k rfl rfl (HKR.out.quiet (Kept.drew (Kept.refl _ b))) (by omega) ?_
  intro kv w1 hBk hk1 hok1
  refine hQ' _ _ (hk1.blk (fun e => e) hBd) ?_
  clear hQ' Q'
  try simp only [Act.put, List.setIfInBounds_toArray, List.set_cons_succ, List.set_cons_zero]
  have hb1 := hk1.blk (fun e => e) hBd
  refine mix_w1 ?_; go_big_quiet_step (fail); refine wpQuiet_nil ?_
  refine mix_load1 hb1 rfl 39 _ rfl naB ⟨g5, 3, none⟩ vv0 rfl (fun w' hb => (hL0 w' hb).2) ?_
  try simp only [Act.put, List.setIfInBounds_toArray, List.set_cons_succ, List.set_cons_zero]
  have hkb1 := (Kept.drew (Kept.refl (fun _ => False) b)).trans hk1 (fun _ _ e => e)
  refine mix_t fun Q' hQ' => ?_
  refine wpList_appendRaw rfl _ _ 39 rfl Tryz.underlying39 hU0 hU1 hU2 hU3 (by decide) vv0 s.v rfl rfl (HVR.out.quiet hkb1) (by omega) ?_
  intro vv w2 hBv hk2 hov2
  refine hQ' _ _ ?_
  clear hQ' Q'
  try simp only [Act.put, List.setIfInBounds_toArray, List.set_cons_succ, List.set_cons_zero]
  have hkb2 := hkb1.trans hk2 (fun _ _ e => e)
  have hT2 := HT1.out.quiet hkb2
  have hszb := hkb1.size
  have hdz : b.drew.heap.size = b.heap.size := rfl
  have hCk : Cp b w2 x y L M kv s.k := ⟨hBk.kept hk2 (fun _ _ e => e), HT1.out.new (fun n hn => by have := hok1 n hn; omega)⟩
  have hCv : Cp b w2 x y L M vv s.v := ⟨hBv, HT1.out.new (fun n hn => by have := hov2 n hn; omega)⟩
  have hne : ∀ n, kv.ownBlock = some n → vv.ownBlock ≠ some n := fun n h1 h2 => by
    have := hov2 n h2
    have := hBk.lt n h1
    omega
  have HCK := Lib.hid hCk
  have HCV := Lib.hid hCv
  have HNE := Lib.hid hne
  have HT2 := Lib.hid hT2
  have hB2 := hkb2.blk (fun e => e) hBX
  have HB2 := Lib.hid hB2
  have c0 : w2.cell? ⟨g5, 0, none⟩ = some (.int .i64 s.what) := by rw [hB2.cell]; rfl
  have c1 : w2.cell? ⟨g5, 1, none⟩ = some (.int .i64 s.n) := by rw [hB2.cell]; rfl
  have c4 : w2.cell? ⟨g5, 4, none⟩ = some (.int .u64 s.flags) := by rw [hB2.cell]; rfl
  rw [hw] at c0
  clear hT2 hCk hCv hne hBk hBv hk1 hok1 hb1 hkb1 hk2 hov2 hkb2 hszb hdz hBd hB2
  repeat (refine mix_w1 ?_; go_big_quiet_step (fail); refine wpQuiet_nil ?_)
  refine mix_done ?_
  go_wp2_with fail
  refine wp_region_mix [.w, .w, .w, .w, .l, .k, .w, .w, .l, .w, .l, .w, .l, .t, .w, .w] (by kernel_rfl) (by kernel_rfl) (fun w' => Blk w' g5 42 (stepC s kv0 vv0)) ?_
  have hB3 := HB2.out.drew
  refine mix_w1 ?_; go_big_quiet_step (fail); refine wpQuiet_nil ?_
  refine mix_w1 ?_; go_big_quiet_step (fail); refine wpQuiet_nil ?_
  refine mix_w1 ?_; go_big_quiet_step (fail); refine wpQuiet_nil ?_
  refine mix_w1 ?_; go_big_quiet_step (fail); refine wpQuiet_nil ?_
  refine mix_load1 hB3 rfl 40 _ rfl naU ⟨g5, 4, none⟩ (.int .u64 s.flags) rfl (fun w' hb => by rw [hb.cell]; rfl) ?_
  try simp only [Act.put, List.setIfInBounds_toArray, List.set_cons_succ, List.set_cons_zero]
  refine mix_k (by exact hB3) fun Q' hQ' => ?_
  go_wp2_with fail
  have hT2d := HT2.out.drew
  have hCk2d := HCK.out.drew
  have hCv2d := HCV.out.drew
  refine (mupd_any x S R L kv vv s.k s.v s.flags _ hT2d.p HRL.out.1 hCk2d.bs.by_ (fun g hg => (hCk2d.own g hg).2.1) hCv2d.bs.by_ (by omega)).mono ?_
  rintro e w3 ⟨v3, L3, rfl, hP3, hs3, hf3, hk3'⟩
  have hT3 := hT2d.px hP3 hf3 hk3'
  have hB4 := hk3'.blk (fun e => HBX.out _ (.inl e) rfl) hB3
  have hCk3 := hCk2d.px hk3' hf3
  have hCv3 := hCv2d.px hk3' hf3
  go_wp2_with fail
  refine hQ' _ _ hB4 ?_
  clear hQ' Q' hP3 hf3 hk3'
  refine mix_w1 ?_; go_big_quiet_step (fail); refine wpQuiet_nil ?_
  refine mix_w1 ?_; go_big_quiet_step (fail); refine wpQuiet_nil ?_
  refine mix_load1 hB4 rfl 39 _ rfl naB ⟨g5, 2, none⟩ (kv0) rfl (fun w' hb => by rw [hb.cell]; rfl) ?_
  try simp only [Act.put, List.setIfInBounds_toArray, List.set_cons_succ, List.set_cons_zero]
  refine mix_w1 ?_; go_big_quiet_step (fail); refine wpQuiet_nil ?_
  refine mix_load1 hB4 rfl 39 _ rfl naB ⟨g5, 3, none⟩ (vv0) rfl (fun w' hb => by rw [hb.cell]; rfl) ?_
  try simp only [Act.put, List.setIfInBounds_toArray, List.set_cons_succ, List.set_cons_zero]
  refine mix_w1 ?_; go_big_quiet_step (fail); refine wpQuiet_nil ?_
  refine mix_load1 hB4 rfl 40 _ rfl naU ⟨g5, 4, none⟩ (.int .u64 s.flags) rfl (fun w' hb => by rw [hb.cell]; rfl) ?_
  try simp only [Act.put, List.setIfInBounds_toArray, List.set_cons_succ, List.set_cons_zero]
  have hRe : Rel S R (M.map Rg.see) := by rw [HRL.out.2]; exact HRL.out.1
  refine mix_t fun Q' hQ' => ?_
  go_wp2_with fail
  refine (rupd_any y S R M kv0 vv0 s.k s.v s.flags _ hT3.r hRe (hT3.raw HKR.out HKX.out) (hT3.rawX HKR.out HKX.out) (hT3.raw HVR.out HVX.out) (hT3.rawX HVR.out HVX.out) (by have := HMM.out; omega) hfl.1).mono ?_
  rintro e w5 ⟨v5, lv5, R5, M5, rfl, hP5, hs5, hRR5, hf5, hk5'⟩
  have hT5 := hT3.ry hP5 hf5 hk5'
  have hCk5 := hCk3.ry hk5' hf5
  have hCv5 := hCv3.ry hk5' hf5
  have hs53 : M5.map Rg.see = L3.map Rg.see := by rw [hs5, hs3, HRL.out.2]
  have hle3 : L3.length ≤ L.length + 1 := by
    have h1 := congrArg List.length hs3
    have h2 := seeU_le S (L.map Rg.see) s.k s.v s.flags
    rw [List.length_map] at h1 h2
    omega
  have hRl3 : Rel (staU S L.length s.k s.v s.flags) R5 (L3.map Rg.see) := by rw [← hs53, ← HMM.out]; exact hRR5
  obtain ⟨x5, y5, S5, R5, L5, M5, ex, ey, ex2, ey2, hT5, hRl5, hSe5, hLe5, hCk5, hCv5⟩ : ∃ (x5 : Loc) (y5 : RLoc) (S5 R5 : MS) (L5 M5 : List Rg), x5.q = x.q ∧ y5.q = y.q ∧ x5.mp = x.mp ∧ y5.mp = y.mp ∧ Tl b w5 x5 y5 S5 R5 L5 M5 (fun n => fpMp x L n ∨ fpR y M n) ∧ Rel S5 R5 (L5.map Rg.see) ∧ M5.map Rg.see = L5.map Rg.see ∧ L5.length ≤ L.length + 1 ∧ Cp b w5 x5 y5 L5 M5 kv s.k ∧ Cp b w5 x5 y5 L5 M5 vv s.v :=
    ⟨{ x with v := v3 }, { y with v := v5, lv := lv5 }, _, _, _, _, rfl, rfl, rfl, rfl, hT5, hRl3, hs53, hle3, hCk5, hCv5⟩
  clear HRL HCK HCV HT2 HB2 HT1
  clear hT3 hB3 hB4 hCk3 hCv3 hT2d hCk2d hCv2d hP5 hf5 hk5' hs5 hs3 hRR5 hRe hs53 hle3 hRl3
  generalize codU S s.k s.v s.flags = cc at *
  go_wp2_with fail
  repeat (refine mix_w1 ?_; go_big_quiet_step (fail); refine wpQuiet_nil ?_)
  refine mix_done ?_
  go_wp2_with fail
  refine (spoil_any kv s.k _ hCk5.bs (by omega)).mono ?_
  rintro e w6 ⟨rfl, hk6⟩
  have hT6 := hT5.spoil hCk5.own hk6
  have hCv6 := hCv5.spoil hk6 HNE.out
  clear hT5 hCk5 hCv5 hk6
  go_wp2_with fail
  refine (spoil_any vv s.v _ hCv6.bs (by omega)).mono ?_
  rintro e w7 ⟨rfl, hk7⟩
  have hT7 := hT6.spoil hCv6.own hk7
  clear hT6 hCv6 hk7 HNE
  have hcb : ∀ w', Kept (fun n => fpMp x L n ∨ fpR y M n) b w' → w'.cell? ⟨g5, 2, none⟩ = some kv0 := fun w' hk => by rw [(hk.blk (fun e => HBX.out _ e rfl) hBX).cell]; rfl
  have HCB := Lib.hid hcb
  clear hcb hBX hL0 c0 c1 c4
  have hc2 := HCB.out w7 hT7.kp
  have h8 := mlook_any x5 S5 L5 kv0 s.k w7 hT7.p (hT7.raw HKR.out HKX.out) hRl5
  rw [ex] at h8
  have H8 := Lib.hid h8
  clear h8
  go_wp2_with fail
  refine H8.out.mono ?_
  rintro e w8 ⟨rfl, hk8⟩
  have hT8 := hT7.quiet hk8
  clear hT7 hk8 hc2 H8
  have hc2 := HCB.out w8 hT8.kp
  have h9 := rlook_any y5 S5 R5 M5 kv0 s.k w8 hT8.r hRl5 (hT8.raw HKR.out HKX.out)
  rw [ey] at h9
  have H9 := Lib.hid h9
  clear h9
  go_wp2_with fail
  refine H9.out.mono ?_
  rintro e w9 ⟨rfl, hk9⟩
  have hT9 := hT8.quiet hk9
  clear hT8 hk9 hc2 H9
  have hc2 := HCB.out w9 hT9.kp
  have ha := mval_any x5 S5 L5 kv0 s.k w9 hT9.p (hT9.raw HKR.out HKX.out) hRl5 rfl
  rw [ex] at ha
  have HA := Lib.hid ha
  clear ha
  go_wp2_with fail
  refine HA.out.mono ?_
  rintro e wa ⟨ov1, rfl, hv1, ho1, hka⟩
  have hTa := hT9.quiet hka
  have hn1 := hT9.new ho1
  clear hT9 hka hc2 HA
  have hc2 := HCB.out wa hTa.kp
  have hb := rval_any y5 S5 R5 M5 kv0 s.k wa hTa.r hRl5 hSe5 (hTa.raw HKR.out HKX.out)
  rw [ey] at hb
  have HB := Lib.hid hb
  clear hb
  go_wp2_with fail
  refine HB.out.mono ?_
  rintro e wb ⟨ov2, rfl, hv2, ho2, hkb⟩
  have hTb := hTa.quiet hkb
  have hv1b : Bs wb ov1 (valL S5 (L5.map Rg.see) s.k) := hv1.kept hkb (fun _ _ e => e)
  clear hTa hkb hc2 HB hv1 ho1 ho2
  have hc := mkeysB_any x5 S5 L5 wb hTb.p hRl5
  rw [ex] at hc
  have HC := Lib.hid hc
  clear hc
  go_wp2_with fail
  refine HC.out.mono ?_
  rintro e wc ⟨ov3, T1, rfl, hs3, hb3, ht3, hkc⟩
  have hTc := hTb.quiet hkc
  have hv1c := hv1b.kept hkc (fun _ _ e => e)
  have hv2c := hv2.kept hkc (fun _ _ e => e)
  clear hTb HC hv1b hv2 hkc
  have hd := rkeysB_any y5 S5 R5 M5 wc hTc.r hRl5
  rw [ey] at hd
  have HD := Lib.hid hd
  clear hd
  go_wp2_with fail
  refine HD.out.mono ?_
  rintro e wd ⟨ov4, T2, rfl, hs4, hb4, ht4, hkd⟩
  have hTd := hTc.quiet hkd
  have hv1d : Bs wd ov1 (valL S5 (L5.map Rg.see) s.k) := hv1c.kept hkd (fun _ _ e => e)
  have hv2d : Bs wd ov2 (valL S5 (L5.map Rg.see) s.k) := hv2c.kept hkd (fun _ _ e => e)
  have hs3d := hs3.kept hkd (fun _ _ e => e)
  have hb3d : ∀ z ∈ T1, By wd z.1 z.2 := fun z hz => (hb3 z hz).kept hkd (fun _ _ e => e)
  have hBy := hbytes_any ov1 ov2 _ _ wd hv1d.by_ hv2d.by_
  rw [show (valL S5 (L5.map Rg.see) s.k == valL S5 (L5.map Rg.see) s.k) = true by simp] at hBy
  have hlen : T1.length ≤ 1000000 := by
    have h1 : T1.length = R5.ent.length := by have := congrArg List.length ht3; simpa using this
    have h2 := hRl5.len
    have h3 := hRl5.few
    have h4 := hRl5.en
    omega
  have hLs := fun w' (hk : Kept (fun _ => False) wd w') => hlists_any ov3 ov4 T1 T2 w' (hs3d.kept hk (fun _ _ e => e)) (fun z hz => (hb3d z hz).kept hk (fun _ _ e => e)) (hs4.kept hk (fun _ _ e => e)) (fun z hz => (hb4 z hz).kept hk (fun _ _ e => e)) (ht3.trans ht4.symm) hlen
  have hvl1 := val_le (k := s.k) (S := S5) hTd.p
  have HBY := Lib.hid hBy
  have HLS := Lib.hid hLs
  clear hTc HD hv1c hv2c hs3 hb3 hs4 hb4 ht3 ht4 hkd hs3d hb3d hBy hLs hlen hv2d
  go_wp2_with fail
  refine HBY.out.mono ?_
  rintro e we ⟨rfl, rfl⟩
  go_wp2_with fail
  refine (HLS.out _ (Kept.refl _ _)).mono ?_
  rintro e wf ⟨rfl, hkf⟩
  have hTf := hTd.quiet hkf
  have hv1f : Bs wf ov1 (valL S5 (L5.map Rg.see) s.k) := hv1d.kept hkf (fun _ _ e => e)
  clear hTd hv1d hkf HBY HLS
  go_wp2_with fail
  refine (spoil_any ov1 _ _ hv1f hvl1).mono ?_
  rintro e wg ⟨rfl, hkg⟩
  have hTg := hTf.spoil hn1 hkg
  go_wp2_with fail
  go_ret
  exact ⟨rfl, x5, y5, S5, R5, L5, M5, ex, ey, ex2, ey2, hTg.base HKA.out, hRl5, hSe5, hLe5⟩

set_option maxHeartbeats 20000000 in
set_option maxRecDepth 100000 in
theorem does_upd1 (x : Loc) (y : RLoc) (S R : MS) (L M : List Rg) (s : Hs) (kv0 vv0 : Value) (w : World) (hT0 : Tl w w x y S R L M (fun n => fpMp x L n ∨ fpR y M n)) (hR0 : Rel S R (L.map Rg.see)) (hM0 : M.map Rg.see = L.map Rg.see)
    (hKr0 : Raw w kv0 s.k) (hVr0 : Raw w vv0 s.v) (hkx : 0 < s.k.length → ∀ g, kv0.ownBlock = some g → ¬ (fpMp x L g ∨ fpR y M g)) (hvx : 0 < s.v.length → ∀ g, vv0.ownBlock = some g → ¬ (fpMp x L g ∨ fpR y M g)) (hkl : s.k.length ≤ 100) (hvl : s.v.length ≤ 400)
    (hfl : 0 ≤ s.flags ∧ s.flags < 18446744073709551616) (hLl : L.length < 999) (hw : s.what = 1) :
    Calls Tryz.prog 10 #[.pointer (some ⟨x.q, 0, none⟩), .pointer (some ⟨y.q, 0, none⟩), .agg (stepC s kv0 vv0)] w fun e w' => e = .returned (.bool true) ∧ After w x y L M w' := by
  obtain ⟨u0, hU0, hU1, hU2, hU3⟩ := info_parts infoU8
  have hkA := (Kept.refl (fun _ => False) w).alloc (.cells (stepC s kv0 vv0) 42)
  have hBX := Blk.new w 42 (stepC s kv0 vv0)
  have hbx0 : ∀ n, fpMp x L n ∨ fpR y M n → n ≠ w.heap.size := fun n hn e => by
    rcases hn with h | h
    · have := hT0.p.lt h; omega
    · have := hT0.r.lt h; omega
  have HM : M.length = L.length := by have := congrArg List.length hM0; simpa using this
  obtain ⟨kA, kC, rfl, hkb⟩ := id hKr0
  obtain ⟨vA, vC, rfl, hvb⟩ := id hVr0
  have HKR := Lib.hid (hKr0.quiet hkA)
  have HVR := Lib.hid (hVr0.quiet hkA)
  have HMM := Lib.hid HM
  have HT1 := Lib.hid (hT0.start hkA)
  have HRL := Lib.hid (And.intro hR0 hM0)
  have HKX := Lib.hid hkx
  have HVX := Lib.hid hvx
  clear hKr0 hVr0 hT0 hR0 hM0 HM hkx hvx hkb hvb
  go_enter Tryz.func10, Tryz.ntmps10
  go_wp2_with fail
  have HKA := Lib.hid hkA
  have HBX := Lib.hid hbx0
  clear hkA hbx0
  generalize w.alloc (.cells (stepC s (.slice kA s.k.length kC) (.slice vA s.v.length vC)) 42) = b at *
  generalize w.heap.size = g5 at *
  generalize hkv0 : Value.slice kA s.k.length kC = kv0 at *
  generalize hvv0 : Value.slice vA s.v.length vC = vv0 at *
  have hL0 : ∀ w' : World, Blk w' g5 42 (stepC s kv0 vv0) → w'.cell? ⟨g5, 2, none⟩ = some kv0 ∧ w'.cell? ⟨g5, 3, none⟩ = some vv0 := fun w' hb => ⟨by rw [hb.cell]; rfl, by rw [hb.cell]; rfl⟩
  refine wp_region_mix [.w, .l, .k, .w, .l, .t, .w, .w] (by kernel_rfl) (by kernel_rfl) (fun w' => Blk w' g5 42 (stepC s kv0 vv0)) ?_
  have hBd := hBX.drew
  refine mix_w1 ?_; go_big_quiet_step (fail); refine wpQuiet_nil ?_
  refine mix_load1 hBd rfl 39 _ rfl naB ⟨g5, 2, none⟩ kv0 rfl (fun w' hb => (hL0 w' hb).1) ?_
  try simp only [Act.put, List.setIfInBounds_toArray, List.set_cons_succ, List.set_cons_zero]
  refine mix_k (by exact hBd) fun Q' hQ' => ?_
  refine wpList_appendRaw rfl _ _ 39 rfl Tryz.underlying39 hU0 hU1 hU2 hU3 (by decide) kv0 s.k rfl rfl (HKR.out.quiet (Kept.drew (Kept.refl _ b))) (by omega) ?_
  intro kv w1 hBk hk1 hok1
  refine hQ' _ _ (hk1.blk (fun e => e) hBd) ?_
  clear hQ' Q'
  try simp only [Act.put, List.setIfInBounds_toArray, List.set_cons_succ, List.set_cons_zero]
  have hb1 := hk1.blk (fun e => e) hBd
  refine mix_w1 ?_; go_big_quiet_step (fail); refine wpQuiet_nil ?_
  refine mix_load1 hb1 rfl 39 _ rfl naB ⟨g5, 3, none⟩ vv0 rfl (fun w' hb => (hL0 w' hb).2) ?_
  try simp only [Act.put, List.setIfInBounds_toArray, List.set_cons_succ, List.set_cons_zero]
  have hkb1 := (Kept.drew (Kept.refl (fun _ => False) b)).trans hk1 (fun _ _ e => e)
  refine mix_t fun Q' hQ' => ?_
  refine wpList_appendRaw rfl _ _ 39 rfl Tryz.underlying39 hU0 hU1 hU2 hU3 (by decide) vv0 s.v rfl rfl (HVR.out.quiet hkb1) (by omega) ?_
  intro vv w2 hBv hk2 hov2
  refine hQ' _ _ ?_
  clear hQ' Q'
  try simp only [Act.put, List.setIfInBounds_toArray, List.set_cons_succ, List.set_cons_zero]
  have hkb2 := hkb1.trans hk2 (fun _ _ e => e)
  have hT2 := HT1.out.quiet hkb2
  have hszb := hkb1.size
  have hdz : b.drew.heap.size = b.heap.size := rfl
  have hCk : Cp b w2 x y L M kv s.k := ⟨hBk.kept hk2 (fun _ _ e => e), HT1.out.new (fun n hn => by have := hok1 n hn; omega)⟩
  have hCv : Cp b w2 x y L M vv s.v := ⟨hBv, HT1.out.new (fun n hn => by have := hov2 n hn; omega)⟩
  have hne : ∀ n, kv.ownBlock = some n → vv.ownBlock ≠ some n := fun n h1 h2 => by
    have := hov2 n h2
    have := hBk.lt n h1
    omega
  have HCK := Lib.hid hCk
  have HCV := Lib.hid hCv
  have HNE := Lib.hid hne
  have HT2 := Lib.hid hT2
  have hB2 := hkb2.blk (fun e => e) hBX
  have HB2 := Lib.hid hB2
  have c0 : w2.cell? ⟨g5, 0, none⟩ = some (.int .i64 s.what) := by rw [hB2.cell]; rfl
  have c1 : w2.cell? ⟨g5, 1, none⟩ = some (.int .i64 s.n) := by rw [hB2.cell]; rfl
  have c4 : w2.cell? ⟨g5, 4, none⟩ = some (.int .u64 s.flags) := by rw [hB2.cell]; rfl
  rw [hw] at c0
  clear hT2 hCk hCv hne hBk hBv hk1 hok1 hb1 hkb1 hk2 hov2 hkb2 hszb hdz hBd hB2
  repeat (refine mix_w1 ?_; go_big_quiet_step (fail); refine wpQuiet_nil ?_)
  refine mix_done ?_
  go_wp2_with fail
  refine wp_region_mix [.w, .w, .w, .w, .l, .k, .w, .w, .l, .w, .l, .w, .l, .t, .w, .w] (by kernel_rfl) (by kernel_rfl) (fun w' => Blk w' g5 42 (stepC s kv0 vv0)) ?_
  have hB3 := HB2.out.drew
  refine mix_w1 ?_; go_big_quiet_step (fail); refine wpQuiet_nil ?_
  refine mix_w1 ?_; go_big_quiet_step (fail); refine wpQuiet_nil ?_
  refine mix_w1 ?_; go_big_quiet_step (fail); refine wpQuiet_nil ?_
  refine mix_w1 ?_; go_big_quiet_step (fail); refine wpQuiet_nil ?_
  refine mix_load1 hB3 rfl 40 _ rfl naU ⟨g5, 4, none⟩ (.int .u64 s.flags) rfl (fun w' hb => by rw [hb.cell]; rfl) ?_
  try simp only [Act.put, List.setIfInBounds_toArray, List.set_cons_succ, List.set_cons_zero]
  refine mix_k (by exact hB3) fun Q' hQ' => ?_
  go_wp2_with fail
  have hT2d := HT2.out.drew
  have hCk2d := HCK.out.drew
  have hCv2d := HCV.out.drew
  refine (mupd_any x S R L kv vv s.k s.v s.flags _ hT2d.p HRL.out.1 hCk2d.bs.by_ (fun g hg => (hCk2d.own g hg).2.1) hCv2d.bs.by_ (by omega)).mono ?_
  rintro e w3 ⟨v3, L3, rfl, hP3, hs3, hf3, hk3'⟩
  have hT3 := hT2d.px hP3 hf3 hk3'
  have hB4 := hk3'.blk (fun e => HBX.out _ (.inl e) rfl) hB3
  have hCk3 := hCk2d.px hk3' hf3
  have hCv3 := hCv2d.px hk3' hf3
  go_wp2_with fail
  refine hQ' _ _ hB4 ?_
  clear hQ' Q' hP3 hf3 hk3'
  refine mix_w1 ?_; go_big_quiet_step (fail); refine wpQuiet_nil ?_
  refine mix_w1 ?_; go_big_quiet_step (fail); refine wpQuiet_nil ?_
  refine mix_load1 hB4 rfl 39 _ rfl naB ⟨g5, 2, none⟩ (kv0) rfl (fun w' hb => by rw [hb.cell]; rfl) ?_
  try simp only [Act.put, List.setIfInBounds_toArray, List.set_cons_succ, List.set_cons_zero]
  refine mix_w1 ?_; go_big_quiet_step (fail); refine wpQuiet_nil ?_
  refine mix_load1 hB4 rfl 39 _ rfl naB ⟨g5, 3, none⟩ (vv0) rfl (fun w' hb => by rw [hb.cell]; rfl) ?_
  try simp only [Act.put, List.setIfInBounds_toArray, List.set_cons_succ, List.set_cons_zero]
  refine mix_w1 ?_; go_big_quiet_step (fail); refine wpQuiet_nil ?_
  refine mix_load1 hB4 rfl 40 _ rfl naU ⟨g5, 4, none⟩ (.int .u64 s.flags) rfl (fun w' hb => by rw [hb.cell]; rfl) ?_
  try simp only [Act.put, List.setIfInBounds_toArray, List.set_cons_succ, List.set_cons_zero]
  have hRe : Rel S R (M.map Rg.see) := by rw [HRL.out.2]; exact HRL.out.1
  refine mix_t fun Q' hQ' => ?_
  go_wp2_with fail
  refine (rupd_any y S R M kv0 vv0 s.k s.v s.flags _ hT3.r hRe (hT3.raw HKR.out HKX.out) (hT3.rawX HKR.out HKX.out) (hT3.raw HVR.out HVX.out) (hT3.rawX HVR.out HVX.out) (by have := HMM.out; omega) hfl.1).mono ?_
  rintro e w5 ⟨v5, lv5, R5, M5, rfl, hP5, hs5, hRR5, hf5, hk5'⟩
  have hT5 := hT3.ry hP5 hf5 hk5'
  have hCk5 := hCk3.ry hk5' hf5
  have hCv5 := hCv3.ry hk5' hf5
  have hs53 : M5.map Rg.see = L3.map Rg.see := by rw [hs5, hs3, HRL.out.2]
  have hle3 : L3.length ≤ L.length + 1 := by
    have h1 := congrArg List.length hs3
    have h2 := seeU_le S (L.map Rg.see) s.k s.v s.flags
    rw [List.length_map] at h1 h2
    omega
  have hRl3 : Rel (staU S L.length s.k s.v s.flags) R5 (L3.map Rg.see) := by rw [← hs53, ← HMM.out]; exact hRR5
  obtain ⟨x5, y5, S5, R5, L5, M5, ex, ey, ex2, ey2, hT5, hRl5, hSe5, hLe5, hCk5, hCv5⟩ : ∃ (x5 : Loc) (y5 : RLoc) (S5 R5 : MS) (L5 M5 : List Rg), x5.q = x.q ∧ y5.q = y.q ∧ x5.mp = x.mp ∧ y5.mp = y.mp ∧ Tl b w5 x5 y5 S5 R5 L5 M5 (fun n => fpMp x L n ∨ fpR y M n) ∧ Rel S5 R5 (L5.map Rg.see) ∧ M5.map Rg.see = L5.map Rg.see ∧ L5.length ≤ L.length + 1 ∧ Cp b w5 x5 y5 L5 M5 kv s.k ∧ Cp b w5 x5 y5 L5 M5 vv s.v :=
    ⟨{ x with v := v3 }, { y with v := v5, lv := lv5 }, _, _, _, _, rfl, rfl, rfl, rfl, hT5, hRl3, hs53, hle3, hCk5, hCv5⟩
  clear HRL HCK HCV HT2 HB2 HT1
  clear hT3 hB3 hB4 hCk3 hCv3 hT2d hCk2d hCv2d hP5 hf5 hk5' hs5 hs3 hRR5 hRe hs53 hle3 hRl3
  generalize codU S s.k s.v s.flags = cc at *
  go_wp2_with fail
  repeat (refine mix_w1 ?_; go_big_quiet_step (fail); refine wpQuiet_nil ?_)
  refine mix_done ?_
  go_wp2_with fail
  refine (spoil_any kv s.k _ hCk5.bs (by omega)).mono ?_
  rintro e w6 ⟨rfl, hk6⟩
  have hT6 := hT5.spoil hCk5.own hk6
  have hCv6 := hCv5.spoil hk6 HNE.out
  clear hT5 hCk5 hCv5 hk6
  go_wp2_with fail
  refine (spoil_any vv s.v _ hCv6.bs (by omega)).mono ?_
  rintro e w7 ⟨rfl, hk7⟩
  have hT7 := hT6.spoil hCv6.own hk7
  clear hT6 hCv6 hk7 HNE
  have hcb : ∀ w', Kept (fun n => fpMp x L n ∨ fpR y M n) b w' → w'.cell? ⟨g5, 2, none⟩ = some kv0 := fun w' hk => by rw [(hk.blk (fun e => HBX.out _ e rfl) hBX).cell]; rfl
  have HCB := Lib.hid hcb
  clear hcb hBX hL0 c0 c1 c4
  have hc2 := HCB.out w7 hT7.kp
  have h8 := mlook_any x5 S5 L5 kv0 s.k w7 hT7.p (hT7.raw HKR.out HKX.out) hRl5
  rw [ex] at h8
  have H8 := Lib.hid h8
  clear h8
  go_wp2_with fail
  refine H8.out.mono ?_
  rintro e w8 ⟨rfl, hk8⟩
  have hT8 := hT7.quiet hk8
  clear hT7 hk8 hc2 H8
  have hc2 := HCB.out w8 hT8.kp
  have h9 := rlook_any y5 S5 R5 M5 kv0 s.k w8 hT8.r hRl5 (hT8.raw HKR.out HKX.out)
  rw [ey] at h9
  have H9 := Lib.hid h9
  clear h9
  go_wp2_with fail
  refine H9.out.mono ?_
  rintro e w9 ⟨rfl, hk9⟩
  have hT9 := hT8.quiet hk9
  clear hT8 hk9 hc2 H9
  have hc2 := HCB.out w9 hT9.kp
  have ha := mval_any x5 S5 L5 kv0 s.k w9 hT9.p (hT9.raw HKR.out HKX.out) hRl5 rfl
  rw [ex] at ha
  have HA := Lib.hid ha
  clear ha
  go_wp2_with fail
  refine HA.out.mono ?_
  rintro e wa ⟨ov1, rfl, hv1, ho1, hka⟩
  have hTa := hT9.quiet hka
  have hn1 := hT9.new ho1
  clear hT9 hka hc2 HA
  have hc2 := HCB.out wa hTa.kp
  have hb := rval_any y5 S5 R5 M5 kv0 s.k wa hTa.r hRl5 hSe5 (hTa.raw HKR.out HKX.out)
  rw [ey] at hb
  have HB := Lib.hid hb
  clear hb
  go_wp2_with fail
  refine HB.out.mono ?_
  rintro e wb ⟨ov2, rfl, hv2, ho2, hkb⟩
  have hTb := hTa.quiet hkb
  have hv1b : Bs wb ov1 (valL S5 (L5.map Rg.see) s.k) := hv1.kept hkb (fun _ _ e => e)
  clear hTa hkb hc2 HB hv1 ho1 ho2
  have hc := mkeysB_any x5 S5 L5 wb hTb.p hRl5
  rw [ex] at hc
  have HC := Lib.hid hc
  clear hc
  go_wp2_with fail
  refine HC.out.mono ?_
  rintro e wc ⟨ov3, T1, rfl, hs3, hb3, ht3, hkc⟩
  have hTc := hTb.quiet hkc
  have hv1c := hv1b.kept hkc (fun _ _ e => e)
  have hv2c := hv2.kept hkc (fun _ _ e => e)
  clear hTb HC hv1b hv2 hkc
  have hd := rkeysB_any y5 S5 R5 M5 wc hTc.r hRl5
  rw [ey] at hd
  have HD := Lib.hid hd
  clear hd
  go_wp2_with fail
  refine HD.out.mono ?_
  rintro e wd ⟨ov4, T2, rfl, hs4, hb4, ht4, hkd⟩
  have hTd := hTc.quiet hkd
  have hv1d : Bs wd ov1 (valL S5 (L5.map Rg.see) s.k) := hv1c.kept hkd (fun _ _ e => e)
  have hv2d : Bs wd ov2 (valL S5 (L5.map Rg.see) s.k) := hv2c.kept hkd (fun _ _ e => e)
  have hs3d := hs3.kept hkd (fun _ _ e => e)
  have hb3d : ∀ z ∈ T1, By wd z.1 z.2 := fun z hz => (hb3 z hz).kept hkd (fun _ _ e => e)
  have hBy := hbytes_any ov1 ov2 _ _ wd hv1d.by_ hv2d.by_
  rw [show (valL S5 (L5.map Rg.see) s.k == valL S5 (L5.map Rg.see) s.k) = true by simp] at hBy
  have hlen : T1.length ≤ 1000000 := by
    have h1 : T1.length = R5.ent.length := by have := congrArg List.length ht3; simpa using this
    have h2 := hRl5.len
    have h3 := hRl5.few
    have h4 := hRl5.en
    omega
  have hLs := fun w' (hk : Kept (fun _ => False) wd w') => hlists_any ov3 ov4 T1 T2 w' (hs3d.kept hk (fun _ _ e => e)) (fun z hz => (hb3d z hz).kept hk (fun _ _ e => e)) (hs4.kept hk (fun _ _ e => e)) (fun z hz => (hb4 z hz).kept hk (fun _ _ e => e)) (ht3.trans ht4.symm) hlen
  have hvl1 := val_le (k := s.k) (S := S5) hTd.p
  have HBY := Lib.hid hBy
  have HLS := Lib.hid hLs
  clear hTc HD hv1c hv2c hs3 hb3 hs4 hb4 ht3 ht4 hkd hs3d hb3d hBy hLs hlen hv2d
  go_wp2_with fail
  refine HBY.out.mono ?_
  rintro e we ⟨rfl, rfl⟩
  go_wp2_with fail
  refine (HLS.out _ (Kept.refl _ _)).mono ?_
  rintro e wf ⟨rfl, hkf⟩
  have hTf := hTd.quiet hkf
  have hv1f : Bs wf ov1 (valL S5 (L5.map Rg.see) s.k) := hv1d.kept hkf (fun _ _ e => e)
  clear hTd hv1d hkf HBY HLS
  go_wp2_with fail
  refine (spoil_any ov1 _ _ hv1f hvl1).mono ?_
  rintro e wg ⟨rfl, hkg⟩
  have hTg := hTf.spoil hn1 hkg
  go_wp2_with fail
  go_ret
  exact ⟨rfl, x5, y5, S5, R5, L5, M5, ex, ey, ex2, ey2, hTg.base HKA.out, hRl5, hSe5, hLe5⟩

set_option maxHeartbeats 20000000 in
set_option maxRecDepth 100000 in
theorem does_upd2 (x : Loc) (y : RLoc) (S R : MS) (L M : List Rg) (s : Hs) (kv0 vv0 : Value) (w : World) (hT0 : Tl w w x y S R L M (fun n => fpMp x L n ∨ fpR y M n)) (hR0 : Rel S R (L.map Rg.see)) (hM0 : M.map Rg.see = L.map Rg.see)
    (hKr0 : Raw w kv0 s.k) (hVr0 : Raw w vv0 s.v) (hkx : 0 < s.k.length → ∀ g, kv0.ownBlock = some g → ¬ (fpMp x L g ∨ fpR y M g)) (hvx : 0 < s.v.length → ∀ g, vv0.ownBlock = some g → ¬ (fpMp x L g ∨ fpR y M g)) (hkl : s.k.length ≤ 100) (hvl : s.v.length ≤ 400)
    (hfl : 0 ≤ s.flags ∧ s.flags < 18446744073709551616) (hLl : L.length < 999) (hw : s.what = 2) :
    Calls Tryz.prog 10 #[.pointer (some ⟨x.q, 0, none⟩), .pointer (some ⟨y.q, 0, none⟩), .agg (stepC s kv0 vv0)] w fun e w' => e = .returned (.bool true) ∧ After w x y L M w' := by
  obtain ⟨u0, hU0, hU1, hU2, hU3⟩ := info_parts infoU8
  have hkA := (Kept.refl (fun _ => False) w).alloc (.cells (stepC s kv0 vv0) 42)
  have hBX := Blk.new w 42 (stepC s kv0 vv0)
  have hbx0 : ∀ n, fpMp x L n ∨ fpR y M n → n ≠ w.heap.size := fun n hn e => by
    rcases hn with h | h
    · have := hT0.p.lt h; omega
    · have := hT0.r.lt h; omega
  have HM : M.length = L.length := by have := congrArg List.length hM0; simpa using this
  obtain ⟨kA, kC, rfl, hkb⟩ := id hKr0
  obtain ⟨vA, vC, rfl, hvb⟩ := id hVr0
  have HKR := Lib.hid (hKr0.quiet hkA)
  have HVR := Lib.hid (hVr0.quiet hkA)
  have HMM := Lib.hid HM
  have HT1 := Lib.hid (hT0.start hkA)
  have HRL := Lib.hid (And.intro hR0 hM0)
  have HKX := Lib.hid hkx
  have HVX := Lib.hid hvx
  clear hKr0 hVr0 hT0 hR0 hM0 HM hkx hvx hkb hvb
  go_enter Tryz.func10, Tryz.ntmps10
  go_wp2_with fail
  have HKA := Lib.hid hkA
  have HBX := Lib.hid hbx0
  clear hkA hbx0
  generalize w.alloc (.cells (stepC s (.slice kA s.k.length kC) (.slice vA s.v.length vC)) 42) = b at *
  generalize w.heap.size = g5 at *
  generalize hkv0 : Value.slice kA s.k.length kC = kv0 at *
  generalize hvv0 : Value.slice vA s.v.length vC = vv0 at *
  have hL0 : ∀ w' : World, Blk w' g5 42 (stepC s kv0 vv0) → w'.cell? ⟨g5, 2, none⟩ = some kv0 ∧ w'.cell? ⟨g5, 3, none⟩ = some vv0 := fun w' hb => ⟨by rw [hb.cell]; rfl, by rw [hb.cell]; rfl⟩
  refine wp_region_mix [.w, .l, .k, .w, .l, .t, .w, .w] (by kernel_rfl) (by kernel_rfl) (fun w' => Blk w' g5 42 (stepC s kv0 vv0)) ?_
  have hBd := hBX.drew
  refine mix_w1 ?_; go_big_quiet_step (fail); refine wpQuiet_nil ?_
  refine mix_load1 hBd rfl 39 _ rfl naB ⟨g5, 2, none⟩ kv0 rfl (fun w' hb => (hL0 w' hb).1) ?_
  try simp only [Act.put, List.setIfInBounds_toArray, List.set_cons_succ, List.set_cons_zero]
  refine mix_k (by exact hBd) fun Q' hQ' => ?_
  refine wpList_appendRaw rfl _ _ 39 rfl Tryz.underlying39 hU0 hU1 hU2 hU3 (by decide) kv0 s.k rfl rfl (HKR.out.quiet (Kept.drew (Kept.refl _ b))) (by omega) ?_
  intro kv w1 hBk hk1 hok1
  refine hQ' _ _ (hk1.blk (fun e => e) hBd) ?_
  clear hQ' Q'
  try simp only [Act.put, List.setIfInBounds_toArray, List.set_cons_succ, List.set_cons_zero]
  have hb1 := hk1.blk (fun e => e) hBd
  refine mix_w1 ?_; go_big_quiet_step (fail); refine wpQuiet_nil ?_
  refine mix_load1 hb1 rfl 39 _ rfl naB ⟨g5, 3, none⟩ vv0 rfl (fun w' hb => (hL0 w' hb).2) ?_
  try simp only [Act.put, List.setIfInBounds_toArray, List.set_cons_succ, List.set_cons_zero]
  have hkb1 := (Kept.drew (Kept.refl (fun _ => False) b)).trans hk1 (fun _ _ e => e)
  refine mix_t fun Q' hQ' => ?_
  refine wpList_appendRaw rfl _ _ 39 rfl Tryz.underlying39 hU0 hU1 hU2 hU3 (by decide) vv0 s.v rfl rfl (HVR.out.quiet hkb1) (by omega) ?_
  intro vv w2 hBv hk2 hov2
  refine hQ' _ _ ?_
  clear hQ' Q'
  try simp only [Act.put, List.setIfInBounds_toArray, List.set_cons_succ, List.set_cons_zero]
  have hkb2 := hkb1.trans hk2 (fun _ _ e => e)
  have hT2 := HT1.out.quiet hkb2
  have hszb := hkb1.size
  have hdz : b.drew.heap.size = b.heap.size := rfl
  have hCk : Cp b w2 x y L M kv s.k := ⟨hBk.kept hk2 (fun _ _ e => e), HT1.out.new (fun n hn => by have := hok1 n hn; omega)⟩
  have hCv : Cp b w2 x y L M vv s.v := ⟨hBv, HT1.out.new (fun n hn => by have := hov2 n hn; omega)⟩
  have hne : ∀ n, kv.ownBlock = some n → vv.ownBlock ≠ some n := fun n h1 h2 => by
    have := hov2 n h2
    have := hBk.lt n h1
    omega
  have HCK := Lib.hid hCk
  have HCV := Lib.hid hCv
  have HNE := Lib.hid hne
  have HT2 := Lib.hid hT2
  have hB2 := hkb2.blk (fun e => e) hBX
  have HB2 := Lib.hid hB2
  have c0 : w2.cell? ⟨g5, 0, none⟩ = some (.int .i64 s.what) := by rw [hB2.cell]; rfl
  have c1 : w2.cell? ⟨g5, 1, none⟩ = some (.int .i64 s.n) := by rw [hB2.cell]; rfl
  have c4 : w2.cell? ⟨g5, 4, none⟩ = some (.int .u64 s.flags) := by rw [hB2.cell]; rfl
  rw [hw] at c0
  clear hT2 hCk hCv hne hBk hBv hk1 hok1 hb1 hkb1 hk2 hov2 hkb2 hszb hdz hBd hB2
  repeat (refine mix_w1 ?_; go_big_quiet_step (fail); refine wpQuiet_nil ?_)
  refine mix_done ?_
  go_wp2_with fail
  refine wp_region_mix [.w, .w, .w, .w, .l, .k, .w, .w, .l, .w, .l, .w, .l, .t, .w, .w] (by kernel_rfl) (by kernel_rfl) (fun w' => Blk w' g5 42 (stepC s kv0 vv0)) ?_
  have hB3 := HB2.out.drew
  refine mix_w1 ?_; go_big_quiet_step (fail); refine wpQuiet_nil ?_
  refine mix_w1 ?_; go_big_quiet_step (fail); refine wpQuiet_nil ?_
  refine mix_w1 ?_; go_big_quiet_step (fail); refine wpQuiet_nil ?_
  refine mix_w1 ?_; go_big_quiet_step (fail); refine wpQuiet_nil ?_
  refine mix_load1 hB3 rfl 40 _ rfl naU ⟨g5, 4, none⟩ (.int .u64 s.flags) rfl (fun w' hb => by rw [hb.cell]; rfl) ?_
  try simp only [Act.put, List.setIfInBounds_toArray, List.set_cons_succ, List.set_cons_zero]
  refine mix_k (by exact hB3) fun Q' hQ' => ?_
  go_wp2_with fail
  have hT2d := HT2.out.drew
  have hCk2d := HCK.out.drew
  have hCv2d := HCV.out.drew
  refine (mupd_any x S R L kv vv s.k s.v s.flags _ hT2d.p HRL.out.1 hCk2d.bs.by_ (fun g hg => (hCk2d.own g hg).2.1) hCv2d.bs.by_ (by omega)).mono ?_
  rintro e w3 ⟨v3, L3, rfl, hP3, hs3, hf3, hk3'⟩
  have hT3 := hT2d.px hP3 hf3 hk3'
  have hB4 := hk3'.blk (fun e => HBX.out _ (.inl e) rfl) hB3
  have hCk3 := hCk2d.px hk3' hf3
  have hCv3 := hCv2d.px hk3' hf3
  go_wp2_with fail
  refine hQ' _ _ hB4 ?_
  clear hQ' Q' hP3 hf3 hk3'
  refine mix_w1 ?_; go_big_quiet_step (fail); refine wpQuiet_nil ?_
  refine mix_w1 ?_; go_big_quiet_step (fail); refine wpQuiet_nil ?_
  refine mix_load1 hB4 rfl 39 _ rfl naB ⟨g5, 2, none⟩ (kv0) rfl (fun w' hb => by rw [hb.cell]; rfl) ?_
  try simp only [Act.put, List.setIfInBounds_toArray, List.set_cons_succ, List.set_cons_zero]
  refine mix_w1 ?_; go_big_quiet_step (fail); refine wpQuiet_nil ?_
  refine mix_load1 hB4 rfl 39 _ rfl naB ⟨g5, 3, none⟩ (vv0) rfl (fun w' hb => by rw [hb.cell]; rfl) ?_
  try simp only [Act.put, List.setIfInBounds_toArray, List.set_cons_succ, List.set_cons_zero]
  refine mix_w1 ?_; go_big_quiet_step (fail); refine wpQuiet_nil ?_
  refine mix_load1 hB4 rfl 40 _ rfl naU ⟨g5, 4, none⟩ (.int .u64 s.flags) rfl (fun w' hb => by rw [hb.cell]; rfl) ?_
  try simp only [Act.put, List.setIfInBounds_toArray, List.set_cons_succ, List.set_cons_zero]
  have hRe : Rel S R (M.map Rg.see) := by rw [HRL.out.2]; exact HRL.out.1
  refine mix_t fun Q' hQ' => ?_
  go_wp2_with fail
  refine (rupd_any y S R M kv0 vv0 s.k s.v s.flags _ hT3.r hRe (hT3.raw HKR.out HKX.out) (hT3.rawX HKR.out HKX.out) (hT3.raw HVR.out HVX.out) (hT3.rawX HVR.out HVX.out) (by have := HMM.out; omega) hfl.1).mono ?_
  rintro e w5 ⟨v5, lv5, R5, M5, rfl, hP5, hs5, hRR5, hf5, hk5'⟩
  have hT5 := hT3.ry hP5 hf5 hk5'
  have hCk5 := hCk3.ry hk5' hf5
  have hCv5 := hCv3.ry hk5' hf5
  have hs53 : M5.map Rg.see = L3.map Rg.see := by rw [hs5, hs3, HRL.out.2]
  have hle3 : L3.length ≤ L.length + 1 := by
    have h1 := congrArg List.length hs3
    have h2 := seeU_le S (L.map Rg.see) s.k s.v s.flags
    rw [List.length_map] at h1 h2
    omega
  have hRl3 : Rel (staU S L.length s.k s.v s.flags) R5 (L3.map Rg.see) := by rw [← hs53, ← HMM.out]; exact hRR5
  obtain ⟨x5, y5, S5, R5, L5, M5, ex, ey, ex2, ey2, hT5, hRl5, hSe5, hLe5, hCk5, hCv5⟩ : ∃ (x5 : Loc) (y5 : RLoc) (S5 R5 : MS) (L5 M5 : List Rg), x5.q = x.q ∧ y5.q = y.q ∧ x5.mp = x.mp ∧ y5.mp = y.mp ∧ Tl b w5 x5 y5 S5 R5 L5 M5 (fun n => fpMp x L n ∨ fpR y M n) ∧ Rel S5 R5 (L5.map Rg.see) ∧ M5.map Rg.see = L5.map Rg.see ∧ L5.length ≤ L.length + 1 ∧ Cp b w5 x5 y5 L5 M5 kv s.k ∧ Cp b w5 x5 y5 L5 M5 vv s.v :=
    ⟨{ x with v := v3 }, { y with v := v5, lv := lv5 }, _, _, _, _, rfl, rfl, rfl, rfl, hT5, hRl3, hs53, hle3, hCk5, hCv5⟩
  clear HRL HCK HCV HT2 HB2 HT1
  clear hT3 hB3 hB4 hCk3 hCv3 hT2d hCk2d hCv2d hP5 hf5 hk5' hs5 hs3 hRR5 hRe hs53 hle3 hRl3
  generalize codU S s.k s.v s.flags = cc at *
  go_wp2_with fail
  repeat (refine mix_w1 ?_; go_big_quiet_step (fail); refine wpQuiet_nil ?_)
  refine mix_done ?_
  go_wp2_with fail
  refine (spoil_any kv s.k _ hCk5.bs (by omega)).mono ?_
  rintro e w6 ⟨rfl, hk6⟩
  have hT6 := hT5.spoil hCk5.own hk6
  have hCv6 := hCv5.spoil hk6 HNE.out
  clear hT5 hCk5 hCv5 hk6
  go_wp2_with fail
  refine (spoil_any vv s.v _ hCv6.bs (by omega)).mono ?_
  rintro e w7 ⟨rfl, hk7⟩
  have hT7 := hT6.spoil hCv6.own hk7
  clear hT6 hCv6 hk7 HNE
  have hcb : ∀ w', Kept (fun n => fpMp x L n ∨ fpR y M n) b w' → w'.cell? ⟨g5, 2, none⟩ = some kv0 := fun w' hk => by rw [(hk.blk (fun e => HBX.out _ e rfl) hBX).cell]; rfl
  have HCB := Lib.hid hcb
  clear hcb hBX hL0 c0 c1 c4
  have hc2 := HCB.out w7 hT7.kp
  have h8 := mlook_any x5 S5 L5 kv0 s.k w7 hT7.p (hT7.raw HKR.out HKX.out) hRl5
  rw [ex] at h8
  have H8 := Lib.hid h8
  clear h8
  go_wp2_with fail
  refine H8.out.mono ?_
  rintro e w8 ⟨rfl, hk8⟩
  have hT8 := hT7.quiet hk8
  clear hT7 hk8 hc2 H8
  have hc2 := HCB.out w8 hT8.kp
  have h9 := rlook_any y5 S5 R5 M5 kv0 s.k w8 hT8.r hRl5 (hT8.raw HKR.out HKX.out)
  rw [ey] at h9
  have H9 := Lib.hid h9
  clear h9
  go_wp2_with fail
  refine H9.out.mono ?_
  rintro e w9 ⟨rfl, hk9⟩
  have hT9 := hT8.quiet hk9
  clear hT8 hk9 hc2 H9
  have hc2 := HCB.out w9 hT9.kp
  have ha := mval_any x5 S5 L5 kv0 s.k w9 hT9.p (hT9.raw HKR.out HKX.out) hRl5 rfl
  rw [ex] at ha
  have HA := Lib.hid ha
  clear ha
  go_wp2_with fail
  refine HA.out.mono ?_
  rintro e wa ⟨ov1, rfl, hv1, ho1, hka⟩
  have hTa := hT9.quiet hka
  have hn1 := hT9.new ho1
  clear hT9 hka hc2 HA
  have hc2 := HCB.out wa hTa.kp
  have hb := rval_any y5 S5 R5 M5 kv0 s.k wa hTa.r hRl5 hSe5 (hTa.raw HKR.out HKX.out)
  rw [ey] at hb
  have HB := Lib.hid hb
  clear hb
  go_wp2_with fail
  refine HB.out.mono ?_
  rintro e wb ⟨ov2, rfl, hv2, ho2, hkb⟩
  have hTb := hTa.quiet hkb
  have hv1b : Bs wb ov1 (valL S5 (L5.map Rg.see) s.k) := hv1.kept hkb (fun _ _ e => e)
  clear hTa hkb hc2 HB hv1 ho1 ho2
  have hc := mkeysB_any x5 S5 L5 wb hTb.p hRl5
  rw [ex] at hc
  have HC := Lib.hid hc
  clear hc
  go_wp2_with fail
  refine HC.out.mono ?_
  rintro e wc ⟨ov3, T1, rfl, hs3, hb3, ht3, hkc⟩
  have hTc := hTb.quiet hkc
  have hv1c := hv1b.kept hkc (fun _ _ e => e)
  have hv2c := hv2.kept hkc (fun _ _ e => e)
  clear hTb HC hv1b hv2 hkc
  have hd := rkeysB_any y5 S5 R5 M5 wc hTc.r hRl5
  rw [ey] at hd
  have HD := Lib.hid hd
  clear hd
  go_wp2_with fail
  refine HD.out.mono ?_
  rintro e wd ⟨ov4, T2, rfl, hs4, hb4, ht4, hkd⟩
  have hTd := hTc.quiet hkd
  have hv1d : Bs wd ov1 (valL S5 (L5.map Rg.see) s.k) := hv1c.kept hkd (fun _ _ e => e)
  have hv2d : Bs wd ov2 (valL S5 (L5.map Rg.see) s.k) := hv2c.kept hkd (fun _ _ e => e)
  have hs3d := hs3.kept hkd (fun _ _ e => e)
  have hb3d : ∀ z ∈ T1, By wd z.1 z.2 := fun z hz => (hb3 z hz).kept hkd (fun _ _ e => e)
  have hBy := hbytes_any ov1 ov2 _ _ wd hv1d.by_ hv2d.by_
  rw [show (valL S5 (L5.map Rg.see) s.k == valL S5 (L5.map Rg.see) s.k) = true by simp] at hBy
  have hlen : T1.length ≤ 1000000 := by
    have h1 : T1.length = R5.ent.length := by have := congrArg List.length ht3; simpa using this
    have h2 := hRl5.len
    have h3 := hRl5.few
    have h4 := hRl5.en
    omega
  have hLs := fun w' (hk : Kept (fun _ => False) wd w') => hlists_any ov3 ov4 T1 T2 w' (hs3d.kept hk (fun _ _ e => e)) (fun z hz => (hb3d z hz).kept hk (fun _ _ e => e)) (hs4.kept hk (fun _ _ e => e)) (fun z hz => (hb4 z hz).kept hk (fun _ _ e => e)) (ht3.trans ht4.symm) hlen
  have hvl1 := val_le (k := s.k) (S := S5) hTd.p
  have HBY := Lib.hid hBy
  have HLS := Lib.hid hLs
  clear hTc HD hv1c hv2c hs3 hb3 hs4 hb4 ht3 ht4 hkd hs3d hb3d hBy hLs hlen hv2d
  go_wp2_with fail
  refine HBY.out.mono ?_
  rintro e we ⟨rfl, rfl⟩
  go_wp2_with fail
  refine (HLS.out _ (Kept.refl _ _)).mono ?_
  rintro e wf ⟨rfl, hkf⟩
  have hTf := hTd.quiet hkf
  have hv1f : Bs wf ov1 (valL S5 (L5.map Rg.see) s.k) := hv1d.kept hkf (fun _ _ e => e)
  clear hTd hv1d hkf HBY HLS
  go_wp2_with fail
  refine (spoil_any ov1 _ _ hv1f hvl1).mono ?_
  rintro e wg ⟨rfl, hkg⟩
  have hTg := hTf.spoil hn1 hkg
  go_wp2_with fail
  go_ret
  exact ⟨rfl, x5, y5, S5, R5, L5, M5, ex, ey, ex2, ey2, hTg.base HKA.out, hRl5, hSe5, hLe5⟩

set_option maxHeartbeats 20000000 in
set_option maxRecDepth 100000 in
theorem does_del (x : Loc) (y : RLoc) (S R : MS) (L M : List Rg) (s : Hs) (kv0 vv0 : Value) (w : World) (hT0 : Tl w w x y S R L M (fun n => fpMp x L n ∨ fpR y M n)) (hR0 : Rel S R (L.map Rg.see)) (hM0 : M.map Rg.see = L.map Rg.see)
    (hKr0 : Raw w kv0 s.k) (hVr0 : Raw w vv0 s.v) (hkx : 0 < s.k.length → ∀ g, kv0.ownBlock = some g → ¬ (fpMp x L g ∨ fpR y M g)) (hvx : 0 < s.v.length → ∀ g, vv0.ownBlock = some g → ¬ (fpMp x L g ∨ fpR y M g)) (hkl : s.k.length ≤ 100) (hvl : s.v.length ≤ 400)
    (hfl : 0 ≤ s.flags ∧ s.flags < 18446744073709551616) (hLl : L.length < 999) (hw : s.what = 3) :
    Calls Tryz.prog 10 #[.pointer (some ⟨x.q, 0, none⟩), .pointer (some ⟨y.q, 0, none⟩), .agg (stepC s kv0 vv0)] w fun e w' => e = .returned (.bool true) ∧ After w x y L M w' := by
  obtain ⟨u0, hU0, hU1, hU2, hU3⟩ := info_parts infoU8
  have hkA := (Kept.refl (fun _ => False) w).alloc (.cells (stepC s kv0 vv0) 42)
  have hBX := Blk.new w 42 (stepC s kv0 vv0)
  have hbx0 : ∀ n, fpMp x L n ∨ fpR y M n → n ≠ w.heap.size := fun n hn e => by
    rcases hn with h | h
    · have := hT0.p.lt h; omega
    · have := hT0.r.lt h; omega
  have HM : M.length = L.length := by have := congrArg List.length hM0; simpa using this
  obtain ⟨kA, kC, rfl, hkb⟩ := id hKr0
  obtain ⟨vA, vC, rfl, hvb⟩ := id hVr0
  have HKR := Lib.hid (hKr0.quiet hkA)
  have HVR := Lib.hid (hVr0.quiet hkA)
  have HMM := Lib.hid HM
  have HT1 := Lib.hid (hT0.start hkA)
  have HRL := Lib.hid (And.intro hR0 hM0)
  have HKX := Lib.hid hkx
  have HVX := Lib.hid hvx
  clear hKr0 hVr0 hT0 hR0 hM0 HM hkx hvx hkb hvb
  go_enter Tryz.func10, Tryz.ntmps10
  go_wp2_with fail
  have HKA := Lib.hid hkA
  have HBX := Lib.hid hbx0
  clear hkA hbx0
  generalize w.alloc (.cells (stepC s (.slice kA s.k.length kC) (.slice vA s.v.length vC)) 42) = b at *
  generalize w.heap.size = g5 at *
  generalize hkv0 : Value.slice kA s.k.length kC = kv0 at *
  generalize hvv0 : Value.slice vA s.v.length vC = vv0 at *
  have hL0 : ∀ w' : World, Blk w' g5 42 (stepC s kv0 vv0) → w'.cell? ⟨g5, 2, none⟩ = some kv0 ∧ w'.cell? ⟨g5, 3, none⟩ = some vv0 := fun w' hb => ⟨by rw [hb.cell]; rfl, by rw [hb.cell]; rfl⟩
  refine wp_region_mix [.w, .l, .k, .w, .l, .t, .w, .w] (by kernel_rfl) (by kernel_rfl) (fun w' => Blk w' g5 42 (stepC s kv0 vv0)) ?_
  have hBd := hBX.drew
  refine mix_w1 ?_; go_big_quiet_step (fail); refine wpQuiet_nil ?_
  refine mix_load1 hBd rfl 39 _ rfl naB ⟨g5, 2, none⟩ kv0 rfl (fun w' hb => (hL0 w' hb).1) ?_
  try simp only [Act.put, List.setIfInBounds_toArray, List.set_cons_succ, List.set_cons_zero]
  refine mix_k (by exact hBd) fun Q' hQ' => ?_
  refine wpList_appendRaw rfl _ _ 39 rfl Tryz.underlying39 hU0 hU1 hU2 hU3 (by decide) kv0 s.k rfl rfl (HKR.out.quiet (Kept.drew (Kept.refl _ b))) (by omega) ?_
  intro kv w1 hBk hk1 hok1
  refine hQ' _ _ (hk1.blk (fun e => e) hBd) ?_
  clear hQ' Q'
  try simp only [Act.put, List.setIfInBounds_toArray, List.set_cons_succ, List.set_cons_zero]
  have hb1 := hk1.blk (fun e => e) hBd
  refine mix_w1 ?_; go_big_quiet_step (fail); refine wpQuiet_nil ?_
  refine mix_load1 hb1 rfl 39 _ rfl naB ⟨g5, 3, none⟩ vv0 rfl (fun w' hb => (hL0 w' hb).2) ?_
  try simp only [Act.put, List.setIfInBounds_toArray, List.set_cons_succ, List.set_cons_zero]
  have hkb1 := (Kept.drew (Kept.refl (fun _ => False) b)).trans hk1 (fun _ _ e => e)
  refine mix_t fun Q' hQ' => ?_
  refine wpList_appendRaw rfl _ _ 39 rfl Tryz.underlying39 hU0 hU1 hU2 hU3 (by decide) vv0 s.v rfl rfl (HVR.out.quiet hkb1) (by omega) ?_
  intro vv w2 hBv hk2 hov2
  refine hQ' _ _ ?_
  clear hQ' Q'
  try simp only [Act.put, List.setIfInBounds_toArray, List.set_cons_succ, List.set_cons_zero]
  have hkb2 := hkb1.trans hk2 (fun _ _ e => e)
  have hT2 := HT1.out.quiet hkb2
  have hszb := hkb1.size
  have hdz : b.drew.heap.size = b.heap.size := rfl
  have hCk : Cp b w2 x y L M kv s.k := ⟨hBk.kept hk2 (fun _ _ e => e), HT1.out.new (fun n hn => by have := hok1 n hn; omega)⟩
  have hCv : Cp b w2 x y L M vv s.v := ⟨hBv, HT1.out.new (fun n hn => by have := hov2 n hn; omega)⟩
  have hne : ∀ n, kv.ownBlock = some n → vv.ownBlock ≠ some n := fun n h1 h2 => by
    have := hov2 n h2
    have := hBk.lt n h1
    omega
  have HCK := Lib.hid hCk
  have HCV := Lib.hid hCv
  have HNE := Lib.hid hne
  have HT2 := Lib.hid hT2
  have hB2 := hkb2.blk (fun e => e) hBX
  have HB2 := Lib.hid hB2
  have c0 : w2.cell? ⟨g5, 0, none⟩ = some (.int .i64 s.what) := by rw [hB2.cell]; rfl
  have c1 : w2.cell? ⟨g5, 1, none⟩ = some (.int .i64 s.n) := by rw [hB2.cell]; rfl
  have c4 : w2.cell? ⟨g5, 4, none⟩ = some (.int .u64 s.flags) := by rw [hB2.cell]; rfl
  rw [hw] at c0
  clear hT2 hCk hCv hne hBk hBv hk1 hok1 hb1 hkb1 hk2 hov2 hkb2 hszb hdz hBd hB2
  repeat (refine mix_w1 ?_; go_big_quiet_step (fail); refine wpQuiet_nil ?_)
  refine mix_done ?_
  go_wp2_with fail
  have hT2d := HT2.out
  have hCk2d := HCK.out
  have hCv2d := HCV.out
  refine (mdel_any x S L kv s.k _ hT2d.p hCk2d.bs.by_).mono ?_
  rintro e w3 ⟨rfl, hP3, hk3'⟩
  have hT3 := hT2d.px hP3 (fun n hn => .inl hn) hk3'
  have hB4 := hk3'.blk (fun e => HBX.out _ (.inl e) rfl) HB2.out
  have hCk3 := hCk2d.px (x2 := x) (L2 := L) hk3' (fun n hn => .inl hn)
  have hCv3 := hCv2d.px (x2 := x) (L2 := L) hk3' (fun n hn => .inl hn)
  have hc2 : w3.cell? ⟨g5, 2, none⟩ = some kv0 := by rw [hB4.cell]; rfl
  generalize hc11 : dlI S s.k = c11 at *
  generalize hc12 : dlE S s.k = c12 at *
  have HC11 := Lib.hid hc11
  have HC12 := Lib.hid hc12
  clear hc11 hc12 hP3 hk3'
  go_wp2_with fail
  refine (rdel_any y S R M kv0 s.k _ hT3.r HRL.out.1 (hT3.raw HKR.out HKX.out)).mono ?_
  rintro e w5 ⟨rfl, lv5, hP5, hf5, hk5'⟩
  rw [HC11.out, HC12.out]
  have hT5 := hT3.ry hP5 hf5 hk5'
  have hCk5 := hCk3.ry hk5' hf5
  have hCv5 := hCv3.ry hk5' hf5
  obtain ⟨x5, y5, S5, R5, L5, M5, ex, ey, ex2, ey2, hT5, hRl5, hSe5, hLe5, hCk5, hCv5⟩ : ∃ (x5 : Loc) (y5 : RLoc) (S5 R5 : MS) (L5 M5 : List Rg), x5.q = x.q ∧ y5.q = y.q ∧ x5.mp = x.mp ∧ y5.mp = y.mp ∧ Tl b w5 x5 y5 S5 R5 L5 M5 (fun n => fpMp x L n ∨ fpR y M n) ∧ Rel S5 R5 (L5.map Rg.see) ∧ M5.map Rg.see = L5.map Rg.see ∧ L5.length ≤ L.length + 1 ∧ Cp b w5 x5 y5 L5 M5 kv s.k ∧ Cp b w5 x5 y5 L5 M5 vv s.v :=
    ⟨x, { y with lv := lv5 }, _, _, _, _, rfl, rfl, rfl, rfl, hT5, HRL.out.1.delT _, HRL.out.2, by omega, hCk5, hCv5⟩
  clear HRL HCK HCV HT2 HB2 HT1
  clear hT3 hB4 hCk3 hCv3 hT2d hCk2d hCv2d hP5 hf5 hk5' hc2
  go_wp2_with fail
  refine (spoil_any kv s.k _ hCk5.bs (by omega)).mono ?_
  rintro e w6 ⟨rfl, hk6⟩
  have hT6 := hT5.spoil hCk5.own hk6
  have hCv6 := hCv5.spoil hk6 HNE.out
  clear hT5 hCk5 hCv5 hk6
  go_wp2_with fail
  refine (spoil_any vv s.v _ hCv6.bs (by omega)).mono ?_
  rintro e w7 ⟨rfl, hk7⟩
  have hT7 := hT6.spoil hCv6.own hk7
  clear hT6 hCv6 hk7 HNE
  have hcb : ∀ w', Kept (fun n => fpMp x L n ∨ fpR y M n) b w' → w'.cell? ⟨g5, 2, none⟩ = some kv0 := fun w' hk => by rw [(hk.blk (fun e => HBX.out _ e rfl) hBX).cell]; rfl
  have HCB := Lib.hid hcb
  clear hcb hBX hL0 c0 c1 c4
  have hc2 := HCB.out w7 hT7.kp
  have h8 := mlook_any x5 S5 L5 kv0 s.k w7 hT7.p (hT7.raw HKR.out HKX.out) hRl5
  rw [ex] at h8
  have H8 := Lib.hid h8
  clear h8
  go_wp2_with fail
  refine H8.out.mono ?_
  rintro e w8 ⟨rfl, hk8⟩
  have hT8 := hT7.quiet hk8
  clear hT7 hk8 hc2 H8
  have hc2 := HCB.out w8 hT8.kp
  have h9 := rlook_any y5 S5 R5 M5 kv0 s.k w8 hT8.r hRl5 (hT8.raw HKR.out HKX.out)
  rw [ey] at h9
  have H9 := Lib.hid h9
  clear h9
  go_wp2_with fail
  refine H9.out.mono ?_
  rintro e w9 ⟨rfl, hk9⟩
  have hT9 := hT8.quiet hk9
  clear hT8 hk9 hc2 H9
  have hc2 := HCB.out w9 hT9.kp
  have ha := mval_any x5 S5 L5 kv0 s.k w9 hT9.p (hT9.raw HKR.out HKX.out) hRl5 rfl
  rw [ex] at ha
  have HA := Lib.hid ha
  clear ha
  go_wp2_with fail
  refine HA.out.mono ?_
  rintro e wa ⟨ov1, rfl, hv1, ho1, hka⟩
  have hTa := hT9.quiet hka
  have hn1 := hT9.new ho1
  clear hT9 hka hc2 HA
  have hc2 := HCB.out wa hTa.kp
  have hb := rval_any y5 S5 R5 M5 kv0 s.k wa hTa.r hRl5 hSe5 (hTa.raw HKR.out HKX.out)
  rw [ey] at hb
  have HB := Lib.hid hb
  clear hb
  go_wp2_with fail
  refine HB.out.mono ?_
  rintro e wb ⟨ov2, rfl, hv2, ho2, hkb⟩
  have hTb := hTa.quiet hkb
  have hv1b : Bs wb ov1 (valL S5 (L5.map Rg.see) s.k) := hv1.kept hkb (fun _ _ e => e)
  clear hTa hkb hc2 HB hv1 ho1 ho2
  have hc := mkeysB_any x5 S5 L5 wb hTb.p hRl5
  rw [ex] at hc
  have HC := Lib.hid hc
  clear hc
  go_wp2_with fail
  refine HC.out.mono ?_
  rintro e wc ⟨ov3, T1, rfl, hs3, hb3, ht3, hkc⟩
  have hTc := hTb.quiet hkc
  have hv1c := hv1b.kept hkc (fun _ _ e => e)
  have hv2c := hv2.kept hkc (fun _ _ e => e)
  clear hTb HC hv1b hv2 hkc
  have hd := rkeysB_any y5 S5 R5 M5 wc hTc.r hRl5
  rw [ey] at hd
  have HD := Lib.hid hd
  clear hd
  go_wp2_with fail
  refine HD.out.mono ?_
  rintro e wd ⟨ov4, T2, rfl, hs4, hb4, ht4, hkd⟩
  have hTd := hTc.quiet hkd
  have hv1d : Bs wd ov1 (valL S5 (L5.map Rg.see) s.k) := hv1c.kept hkd (fun _ _ e => e)
  have hv2d : Bs wd ov2 (valL S5 (L5.map Rg.see) s.k) := hv2c.kept hkd (fun _ _ e => e)
  have hs3d := hs3.kept hkd (fun _ _ e => e)
  have hb3d : ∀ z ∈ T1, By wd z.1 z.2 := fun z hz => (hb3 z hz).kept hkd (fun _ _ e => e)
  have hBy := hbytes_any ov1 ov2 _ _ wd hv1d.by_ hv2d.by_
  rw [show (valL S5 (L5.map Rg.see) s.k == valL S5 (L5.map Rg.see) s.k) = true by simp] at hBy
  have hlen : T1.length ≤ 1000000 := by
    have h1 : T1.length = R5.ent.length := by have := congrArg List.length ht3; simpa using this
    have h2 := hRl5.len
    have h3 := hRl5.few
    have h4 := hRl5.en
    omega
  have hLs := fun w' (hk : Kept (fun _ => False) wd w') => hlists_any ov3 ov4 T1 T2 w' (hs3d.kept hk (fun _ _ e => e)) (fun z hz => (hb3d z hz).kept hk (fun _ _ e => e)) (hs4.kept hk (fun _ _ e => e)) (fun z hz => (hb4 z hz).kept hk (fun _ _ e => e)) (ht3.trans ht4.symm) hlen
  have hvl1 := val_le (k := s.k) (S := S5) hTd.p
  have HBY := Lib.hid hBy
  have HLS := Lib.hid hLs
  clear hTc HD hv1c hv2c hs3 hb3 hs4 hb4 ht3 ht4 hkd hs3d hb3d hBy hLs hlen hv2d
  go_wp2_with fail
  refine HBY.out.mono ?_
  rintro e we ⟨rfl, rfl⟩
  go_wp2_with fail
  refine (HLS.out _ (Kept.refl _ _)).mono ?_
  rintro e wf ⟨rfl, hkf⟩
  have hTf := hTd.quiet hkf
  have hv1f : Bs wf ov1 (valL S5 (L5.map Rg.see) s.k) := hv1d.kept hkf (fun _ _ e => e)
  clear hTd hv1d hkf HBY HLS
  go_wp2_with fail
  refine (spoil_any ov1 _ _ hv1f hvl1).mono ?_
  rintro e wg ⟨rfl, hkg⟩
  have hTg := hTf.spoil hn1 hkg
  go_wp2_with fail
  go_ret
  exact ⟨rfl, x5, y5, S5, R5, L5, M5, ex, ey, ex2, ey2, hTg.base HKA.out, hRl5, hSe5, hLe5⟩

set_option maxHeartbeats 20000000 in
set_option maxRecDepth 100000 in
theorem does_prog (x : Loc) (y : RLoc) (S R : MS) (L M : List Rg) (s : Hs) (kv0 vv0 : Value) (w : World) (hT0 : Tl w w x y S R L M (fun n => fpMp x L n ∨ fpR y M n)) (hR0 : Rel S R (L.map Rg.see)) (hM0 : M.map Rg.see = L.map Rg.see)
    (hKr0 : Raw w kv0 s.k) (hVr0 : Raw w vv0 s.v) (hkx : 0 < s.k.length → ∀ g, kv0.ownBlock = some g → ¬ (fpMp x L g ∨ fpR y M g)) (hvx : 0 < s.v.length → ∀ g, vv0.ownBlock = some g → ¬ (fpMp x L g ∨ fpR y M g)) (hkl : s.k.length ≤ 100) (hvl : s.v.length ≤ 400)
    (hfl : 0 ≤ s.flags ∧ s.flags < 18446744073709551616) (hLl : L.length < 999) (hw : s.what = 5) :
    Calls Tryz.prog 10 #[.pointer (some ⟨x.q, 0, none⟩), .pointer (some ⟨y.q, 0, none⟩), .agg (stepC s kv0 vv0)] w fun e w' => e = .returned (.bool true) ∧ After w x y L M w' := by
  obtain ⟨u0, hU0, hU1, hU2, hU3⟩ := info_parts infoU8
  have hkA := (Kept.refl (fun _ => False) w).alloc (.cells (stepC s kv0 vv0) 42)
  have hBX := Blk.new w 42 (stepC s kv0 vv0)
  have hbx0 : ∀ n, fpMp x L n ∨ fpR y M n → n ≠ w.heap.size := fun n hn e => by
    rcases hn with h | h
    · have := hT0.p.lt h; omega
    · have := hT0.r.lt h; omega
  have HM : M.length = L.length := by have := congrArg List.length hM0; simpa using this
  obtain ⟨kA, kC, rfl, hkb⟩ := id hKr0
  obtain ⟨vA, vC, rfl, hvb⟩ := id hVr0
  have HKR := Lib.hid (hKr0.quiet hkA)
  have HVR := Lib.hid (hVr0.quiet hkA)
  have HMM := Lib.hid HM
  have HT1 := Lib.hid (hT0.start hkA)
  have HRL := Lib.hid (And.intro hR0 hM0)
  have HKX := Lib.hid hkx
  have HVX := Lib.hid hvx
  clear hKr0 hVr0 hT0 hR0 hM0 HM hkx hvx hkb hvb
  go_enter Tryz.func10, Tryz.ntmps10
  go_wp2_with fail
  have HKA := Lib.hid hkA
  have HBX := Lib.hid hbx0
  clear hkA hbx0
  generalize w.alloc (.cells (stepC s (.slice kA s.k.length kC) (.slice vA s.v.length vC)) 42) = b at *
  generalize w.heap.size = g5 at *
  generalize hkv0 : Value.slice kA s.k.length kC = kv0 at *
  generalize hvv0 : Value.slice vA s.v.length vC = vv0 at *
  have hL0 : ∀ w' : World, Blk w' g5 42 (stepC s kv0 vv0) → w'.cell? ⟨g5, 2, none⟩ = some kv0 ∧ w'.cell? ⟨g5, 3, none⟩ = some vv0 := fun w' hb => ⟨by rw [hb.cell]; rfl, by rw [hb.cell]; rfl⟩
  refine wp_region_mix [.w, .l, .k, .w, .l, .t, .w, .w] (by kernel_rfl) (by kernel_rfl) (fun w' => Blk w' g5 42 (stepC s kv0 vv0)) ?_
  have hBd := hBX.drew
  refine mix_w1 ?_; go_big_quiet_step (fail); refine wpQuiet_nil ?_
  refine mix_load1 hBd rfl 39 _ rfl naB ⟨g5, 2, none⟩ kv0 rfl (fun w' hb => (hL0 w' hb).1) ?_
  try simp only [Act.put, List.setIfInBounds_toArray, List.set_cons_succ, List.set_cons_zero]
  refine mix_k (by exact hBd) fun Q' hQ' => ?_
  refine wpList_appendRaw rfl _ _ 39 rfl Tryz.underlying39 hU0 hU1 hU2 hU3 (by decide) kv0 s.k rfl rfl (HKR.out.quiet (Kept.drew (Kept.refl _ b))) (by omega) ?_
  intro kv w1 hBk hk1 hok1
  refine hQ' _ _ (hk1.blk (fun e => e) hBd) ?_
  clear hQ' Q'
  try simp only [Act.put, List.setIfInBounds_toArray, List.set_cons_succ, List.set_cons_zero]
  have hb1 := hk1.blk (fun e => e) hBd
  refine mix_w1 ?_; go_big_quiet_step (fail); refine wpQuiet_nil ?_
  refine mix_load1 hb1 rfl 39 _ rfl naB ⟨g5, 3, none⟩ vv0 rfl (fun w' hb => (hL0 w' hb).2) ?_
  try simp only [Act.put, List.setIfInBounds_toArray, List.set_cons_succ, List.set_cons_zero]
  have hkb1 := (Kept.drew (Kept.refl (fun _ => False) b)).trans hk1 (fun _ _ e => e)
  refine mix_t fun Q' hQ' => ?_
  refine wpList_appendRaw rfl _ _ 39 rfl Tryz.underlying39 hU0 hU1 hU2 hU3 (by decide) vv0 s.v rfl rfl (HVR.out.quiet hkb1) (by omega) ?_
  intro vv w2 hBv hk2 hov2
  refine hQ' _ _ ?_
  clear hQ' Q'
  try simp only [Act.put, List.setIfInBounds_toArray, List.set_cons_succ, List.set_cons_zero]
  have hkb2 := hkb1.trans hk2 (fun _ _ e => e)
  have hT2 := HT1.out.quiet hkb2
  have hszb := hkb1.size
  have hdz : b.drew.heap.size = b.heap.size := rfl
  have hCk : Cp b w2 x y L M kv s.k := ⟨hBk.kept hk2 (fun _ _ e => e), HT1.out.new (fun n hn => by have := hok1 n hn; omega)⟩
  have hCv : Cp b w2 x y L M vv s.v := ⟨hBv, HT1.out.new (fun n hn => by have := hov2 n hn; omega)⟩
  have hne : ∀ n, kv.ownBlock = some n → vv.ownBlock ≠ some n := fun n h1 h2 => by
    have := hov2 n h2
    have := hBk.lt n h1
    omega
  have HCK := Lib.hid hCk
  have HCV := Lib.hid hCv
  have HNE := Lib.hid hne
  have HT2 := Lib.hid hT2
  have hB2 := hkb2.blk (fun e => e) hBX
  have HB2 := Lib.hid hB2
  have c0 : w2.cell? ⟨g5, 0, none⟩ = some (.int .i64 s.what) := by rw [hB2.cell]; rfl
  have c1 : w2.cell? ⟨g5, 1, none⟩ = some (.int .i64 s.n) := by rw [hB2.cell]; rfl
  have c4 : w2.cell? ⟨g5, 4, none⟩ = some (.int .u64 s.flags) := by rw [hB2.cell]; rfl
  rw [hw] at c0
  clear hT2 hCk hCv hne hBk hBv hk1 hok1 hb1 hkb1 hk2 hov2 hkb2 hszb hdz hBd hB2
  repeat (refine mix_w1 ?_; go_big_quiet_step (fail); refine wpQuiet_nil ?_)
  refine mix_done ?_
  have hpl := HRL.out.1.pl
  have hmp := mprog_any x S L s.flags w2 HT2.out.p (by omega) hfl
  have hrp := rprog_any y R M s.flags w2 HT2.out.r hfl
  rw [show prgO R s.flags = prgO S s.flags by unfold prgO; rw [HRL.out.1.pg]] at hrp
  generalize (prgO S s.flags).getD 0 = c11 at *
  generalize (prgO S s.flags).isSome = c12 at *
  have HMP := Lib.hid hmp
  have HRP := Lib.hid hrp
  clear hmp hrp hpl
  go_wp2_with fail
  refine HMP.out.mono ?_
  rintro e w3 ⟨rfl, rfl⟩
  go_wp2_with fail
  refine HRP.out.mono ?_
  rintro e w5 ⟨rfl, rfl⟩
  obtain ⟨x5, y5, S5, R5, L5, M5, ex, ey, ex2, ey2, hT5, hRl5, hSe5, hLe5, hCk5, hCv5⟩ : ∃ (x5 : Loc) (y5 : RLoc) (S5 R5 : MS) (L5 M5 : List Rg), x5.q = x.q ∧ y5.q = y.q ∧ x5.mp = x.mp ∧ y5.mp = y.mp ∧ Tl b w2 x5 y5 S5 R5 L5 M5 (fun n => fpMp x L n ∨ fpR y M n) ∧ Rel S5 R5 (L5.map Rg.see) ∧ M5.map Rg.see = L5.map Rg.see ∧ L5.length ≤ L.length + 1 ∧ Cp b w2 x5 y5 L5 M5 kv s.k ∧ Cp b w2 x5 y5 L5 M5 vv s.v :=
    ⟨x, y, S, R, L, M, rfl, rfl, rfl, rfl, HT2.out, HRL.out.1, HRL.out.2, by omega, HCK.out, HCV.out⟩
  clear HRL HCK HCV HT2 HB2 HT1
  clear HMP HRP
  go_wp2_with fail
  refine (spoil_any kv s.k _ hCk5.bs (by omega)).mono ?_
  rintro e w6 ⟨rfl, hk6⟩
  have hT6 := hT5.spoil hCk5.own hk6
  have hCv6 := hCv5.spoil hk6 HNE.out
  clear hT5 hCk5 hCv5 hk6
  go_wp2_with fail
  refine (spoil_any vv s.v _ hCv6.bs (by omega)).mono ?_
  rintro e w7 ⟨rfl, hk7⟩
  have hT7 := hT6.spoil hCv6.own hk7
  clear hT6 hCv6 hk7 HNE
  have hcb : ∀ w', Kept (fun n => fpMp x L n ∨ fpR y M n) b w' → w'.cell? ⟨g5, 2, none⟩ = some kv0 := fun w' hk => by rw [(hk.blk (fun e => HBX.out _ e rfl) hBX).cell]; rfl
  have HCB := Lib.hid hcb
  clear hcb hBX hL0 c0 c1 c4
  have hc2 := HCB.out w7 hT7.kp
  have h8 := mlook_any x5 S5 L5 kv0 s.k w7 hT7.p (hT7.raw HKR.out HKX.out) hRl5
  rw [ex] at h8
  have H8 := Lib.hid h8
  clear h8
  go_wp2_with fail
  refine H8.out.mono ?_
  rintro e w8 ⟨rfl, hk8⟩
  have hT8 := hT7.quiet hk8
  clear hT7 hk8 hc2 H8
  have hc2 := HCB.out w8 hT8.kp
  have h9 := rlook_any y5 S5 R5 M5 kv0 s.k w8 hT8.r hRl5 (hT8.raw HKR.out HKX.out)
  rw [ey] at h9
  have H9 := Lib.hid h9
  clear h9
  go_wp2_with fail
  refine H9.out.mono ?_
  rintro e w9 ⟨rfl, hk9⟩
  have hT9 := hT8.quiet hk9
  clear hT8 hk9 hc2 H9
  have hc2 := HCB.out w9 hT9.kp
  have ha := mval_any x5 S5 L5 kv0 s.k w9 hT9.p (hT9.raw HKR.out HKX.out) hRl5 rfl
  rw [ex] at ha
  have HA := Lib.hid ha
  clear ha
  go_wp2_with fail
  refine HA.out.mono ?_
  rintro e wa ⟨ov1, rfl, hv1, ho1, hka⟩
  have hTa := hT9.quiet hka
  have hn1 := hT9.new ho1
  clear hT9 hka hc2 HA
  have hc2 := HCB.out wa hTa.kp
  have hb := rval_any y5 S5 R5 M5 kv0 s.k wa hTa.r hRl5 hSe5 (hTa.raw HKR.out HKX.out)
  rw [ey] at hb
  have HB := Lib.hid hb
  clear hb
  go_wp2_with fail
  refine HB.out.mono ?_
  rintro e wb ⟨ov2, rfl, hv2, ho2, hkb⟩
  have hTb := hTa.quiet hkb
  have hv1b : Bs wb ov1 (valL S5 (L5.map Rg.see) s.k) := hv1.kept hkb (fun _ _ e => e)
  clear hTa hkb hc2 HB hv1 ho1 ho2
  have hc := mkeysB_any x5 S5 L5 wb hTb.p hRl5
  rw [ex] at hc
  have HC := Lib.hid hc
  clear hc
  go_wp2_with fail
  refine HC.out.mono ?_
  rintro e wc ⟨ov3, T1, rfl, hs3, hb3, ht3, hkc⟩
  have hTc := hTb.quiet hkc
  have hv1c := hv1b.kept hkc (fun _ _ e => e)
  have hv2c := hv2.kept hkc (fun _ _ e => e)
  clear hTb HC hv1b hv2 hkc
  have hd := rkeysB_any y5 S5 R5 M5 wc hTc.r hRl5
  rw [ey] at hd
  have HD := Lib.hid hd
  clear hd
  go_wp2_with fail
  refine HD.out.mono ?_
  rintro e wd ⟨ov4, T2, rfl, hs4, hb4, ht4, hkd⟩
  have hTd := hTc.quiet hkd
  have hv1d : Bs wd ov1 (valL S5 (L5.map Rg.see) s.k) := hv1c.kept hkd (fun _ _ e => e)
  have hv2d : Bs wd ov2 (valL S5 (L5.map Rg.see) s.k) := hv2c.kept hkd (fun _ _ e => e)
  have hs3d := hs3.kept hkd (fun _ _ e => e)
  have hb3d : ∀ z ∈ T1, By wd z.1 z.2 := fun z hz => (hb3 z hz).kept hkd (fun _ _ e => e)
  have hBy := hbytes_any ov1 ov2 _ _ wd hv1d.by_ hv2d.by_
  rw [show (valL S5 (L5.map Rg.see) s.k == valL S5 (L5.map Rg.see) s.k) = true by simp] at hBy
  have hlen : T1.length ≤ 1000000 := by
    have h1 : T1.length = R5.ent.length := by have := congrArg List.length ht3; simpa using this
    have h2 := hRl5.len
    have h3 := hRl5.few
    have h4 := hRl5.en
    omega
  have hLs := fun w' (hk : Kept (fun _ => False) wd w') => hlists_any ov3 ov4 T1 T2 w' (hs3d.kept hk (fun _ _ e => e)) (fun z hz => (hb3d z hz).kept hk (fun _ _ e => e)) (hs4.kept hk (fun _ _ e => e)) (fun z hz => (hb4 z hz).kept hk (fun _ _ e => e)) (ht3.trans ht4.symm) hlen
  have hvl1 := val_le (k := s.k) (S := S5) hTd.p
  have HBY := Lib.hid hBy
  have HLS := Lib.hid hLs
  clear hTc HD hv1c hv2c hs3 hb3 hs4 hb4 ht3 ht4 hkd hs3d hb3d hBy hLs hlen hv2d
  go_wp2_with fail
  refine HBY.out.mono ?_
  rintro e we ⟨rfl, rfl⟩
  go_wp2_with fail
  refine (HLS.out _ (Kept.refl _ _)).mono ?_
  rintro e wf ⟨rfl, hkf⟩
  have hTf := hTd.quiet hkf
  have hv1f : Bs wf ov1 (valL S5 (L5.map Rg.see) s.k) := hv1d.kept hkf (fun _ _ e => e)
  clear hTd hv1d hkf HBY HLS
  go_wp2_with fail
  refine (spoil_any ov1 _ _ hv1f hvl1).mono ?_
  rintro e wg ⟨rfl, hkg⟩
  have hTg := hTf.spoil hn1 hkg
  go_wp2_with fail
  go_ret
  exact ⟨rfl, x5, y5, S5, R5, L5, M5, ex, ey, ex2, ey2, hTg.base HKA.out, hRl5, hSe5, hLe5⟩

set_option maxHeartbeats 20000000 in
set_option maxRecDepth 100000 in
theorem does_key (x : Loc) (y : RLoc) (S R : MS) (L M : List Rg) (s : Hs) (kv0 vv0 : Value) (w : World) (hT0 : Tl w w x y S R L M (fun n => fpMp x L n ∨ fpR y M n)) (hR0 : Rel S R (L.map Rg.see)) (hM0 : M.map Rg.see = L.map Rg.see)
    (hKr0 : Raw w kv0 s.k) (hVr0 : Raw w vv0 s.v) (hkx : 0 < s.k.length → ∀ g, kv0.ownBlock = some g → ¬ (fpMp x L g ∨ fpR y M g)) (hvx : 0 < s.v.length → ∀ g, vv0.ownBlock = some g → ¬ (fpMp x L g ∨ fpR y M g)) (hkl : s.k.length ≤ 100) (hvl : s.v.length ≤ 400)
    (hfl : 0 ≤ s.flags ∧ s.flags < 18446744073709551616) (hLl : L.length < 999) (hw : s.what ≠ 0 ∧ s.what ≠ 1 ∧ s.what ≠ 2 ∧ s.what ≠ 3 ∧ s.what ≠ 4 ∧ s.what ≠ 5) :
    Calls Tryz.prog 10 #[.pointer (some ⟨x.q, 0, none⟩), .pointer (some ⟨y.q, 0, none⟩), .agg (stepC s kv0 vv0)] w fun e w' => e = .returned (.bool true) ∧ After w x y L M w' := by
  obtain ⟨u0, hU0, hU1, hU2, hU3⟩ := info_parts infoU8
  have hkA := (Kept.refl (fun _ => False) w).alloc (.cells (stepC s kv0 vv0) 42)
  have hBX := Blk.new w 42 (stepC s kv0 vv0)
  have hbx0 : ∀ n, fpMp x L n ∨ fpR y M n → n ≠ w.heap.size := fun n hn e => by
    rcases hn with h | h
    · have := hT0.p.lt h; omega
    · have := hT0.r.lt h; omega
  have HM : M.length = L.length := by have := congrArg List.length hM0; simpa using this
  obtain ⟨kA, kC, rfl, hkb⟩ := id hKr0
  obtain ⟨vA, vC, rfl, hvb⟩ := id hVr0
  have HKR := Lib.hid (hKr0.quiet hkA)
  have HVR := Lib.hid (hVr0.quiet hkA)
  have HMM := Lib.hid HM
  have HT1 := Lib.hid (hT0.start hkA)
  have HRL := Lib.hid (And.intro hR0 hM0)
  have HKX := Lib.hid hkx
  have HVX := Lib.hid hvx
  clear hKr0 hVr0 hT0 hR0 hM0 HM hkx hvx hkb hvb
  go_enter Tryz.func10, Tryz.ntmps10
  go_wp2_with fail
  have HKA := Lib.hid hkA
  have HBX := Lib.hid hbx0
  clear hkA hbx0
  generalize w.alloc (.cells (stepC s (.slice kA s.k.length kC) (.slice vA s.v.length vC)) 42) = b at *
  generalize w.heap.size = g5 at *
  generalize hkv0 : Value.slice kA s.k.length kC = kv0 at *
  generalize hvv0 : Value.slice vA s.v.length vC = vv0 at *
  have hL0 : ∀ w' : World, Blk w' g5 42 (stepC s kv0 vv0) → w'.cell? ⟨g5, 2, none⟩ = some kv0 ∧ w'.cell? ⟨g5, 3, none⟩ = some vv0 := fun w' hb => ⟨by rw [hb.cell]; rfl, by rw [hb.cell]; rfl⟩
  refine wp_region_mix [.w, .l, .k, .w, .l, .t, .w, .w] (by kernel_rfl) (by kernel_rfl) (fun w' => Blk w' g5 42 (stepC s kv0 vv0)) ?_
  have hBd := hBX.drew
  refine mix_w1 ?_; go_big_quiet_step (fail); refine wpQuiet_nil ?_
  refine mix_load1 hBd rfl 39 _ rfl naB ⟨g5, 2, none⟩ kv0 rfl (fun w' hb => (hL0 w' hb).1) ?_
  try simp only [Act.put, List.setIfInBounds_toArray, List.set_cons_succ, List.set_cons_zero]
  refine mix_k (by exact hBd) fun Q' hQ' => ?_
  refine wpList_appendRaw rfl _ _ 39 rfl Tryz.underlying39 hU0 hU1 hU2 hU3 (by decide) kv0 s.k rfl rfl (HKR.out.quiet (Kept.drew (Kept.refl _ b))) (by omega) ?_
  intro kv w1 hBk hk1 hok1
  refine hQ' _ _ (hk1.blk (fun e => e) hBd) ?_
  clear hQ' Q'
  try simp only [Act.put, List.setIfInBounds_toArray, List.set_cons_succ, List.set_cons_zero]
  have hb1 := hk1.blk (fun e => e) hBd
  refine mix_w1 ?_; go_big_quiet_step (fail); refine wpQuiet_nil ?_
  refine mix_load1 hb1 rfl 39 _ rfl naB ⟨g5, 3, none⟩ vv0 rfl (fun w' hb => (hL0 w' hb).2) ?_
  try simp only [Act.put, List.setIfInBounds_toArray, List.set_cons_succ, List.set_cons_zero]
  have hkb1 := (Kept.drew (Kept.refl (fun _ => False) b)).trans hk1 (fun _ _ e => e)
  refine mix_t fun Q' hQ' => ?_
  refine wpList_appendRaw rfl _ _ 39 rfl Tryz.underlying39 hU0 hU1 hU2 hU3 (by decide) vv0 s.v rfl rfl (HVR.out.quiet hkb1) (by omega) ?_
  intro vv w2 hBv hk2 hov2
  refine hQ' _ _ ?_
  clear hQ' Q'
  try simp only [Act.put, List.setIfInBounds_toArray, List.set_cons_succ, List.set_cons_zero]
  have hkb2 := hkb1.trans hk2 (fun _ _ e => e)
  have hT2 := HT1.out.quiet hkb2
  have hszb := hkb1.size
  have hdz : b.drew.heap.size = b.heap.size := rfl
  have hCk : Cp b w2 x y L M kv s.k := ⟨hBk.kept hk2 (fun _ _ e => e), HT1.out.new (fun n hn => by have := hok1 n hn; omega)⟩
  have hCv : Cp b w2 x y L M vv s.v := ⟨hBv, HT1.out.new (fun n hn => by have := hov2 n hn; omega)⟩
  have hne : ∀ n, kv.ownBlock = some n → vv.ownBlock ≠ some n := fun n h1 h2 => by
    have := hov2 n h2
    have := hBk.lt n h1
    omega
  have HCK := Lib.hid hCk
  have HCV := Lib.hid hCv
  have HNE := Lib.hid hne
  have HT2 := Lib.hid hT2
  have hB2 := hkb2.blk (fun e => e) hBX
  have HB2 := Lib.hid hB2
  have c0 : w2.cell? ⟨g5, 0, none⟩ = some (.int .i64 s.what) := by rw [hB2.cell]; rfl
  have c1 : w2.cell? ⟨g5, 1, none⟩ = some (.int .i64 s.n) := by rw [hB2.cell]; rfl
  have c4 : w2.cell? ⟨g5, 4, none⟩ = some (.int .u64 s.flags) := by rw [hB2.cell]; rfl
  have e0 : (s.what == 0) = false := by simpa using hw.1
  have e1 : (s.what == 1) = false := by simpa using hw.2.1
  have e2 : (s.what == 2) = false := by simpa using hw.2.2.1
  have e3 : (s.what == 3) = false := by simpa using hw.2.2.2.1
  have e4 : (s.what == 4) = false := by simpa using hw.2.2.2.2.1
  have e5 : (s.what == 5) = false := by simpa using hw.2.2.2.2.2
  clear hw
  clear hT2 hCk hCv hne hBk hBv hk1 hok1 hb1 hkb1 hk2 hov2 hkb2 hszb hdz hBd hB2
  repeat (refine mix_w1 ?_; go_big_quiet_step (fail); refine wpQuiet_nil ?_)
  refine mix_done ?_
  have hmp := mkey2_any x S L s.n w2 HT2.out.p HRL.out.1
  have hrp := fun w' (h : RMp w' y R M) => rkey2_any y S R M s.n w' h HRL.out.1
  have hby : ((keyF S s.n).getD [] == (keyF S s.n).getD []) = true := by simp
  generalize (keyF S s.n).getD [] = c11 at *
  generalize (keyF S s.n).isSome = c12 at *
  have HMP := Lib.hid hmp
  have HRP := Lib.hid hrp
  have HBY := Lib.hid hby
  clear hmp hrp hby
  go_wp2_with fail
  refine HMP.out.mono ?_
  rintro e w3 ⟨ov1, rfl, ho1, hk3⟩
  have hT3 := HT2.out.quiet hk3
  have hB4 := hk3.blk (fun e => e) HB2.out
  have hc1 : w3.cell? ⟨g5, 1, none⟩ = some (.int .i64 s.n) := by rw [hB4.cell]; rfl
  go_wp2_with fail
  refine (HRP.out _ hT3.r).mono ?_
  rintro e w5 ⟨ov2, rfl, ho2, hk5⟩
  have hT5 := hT3.quiet hk5
  have hHB := hbytes_any ov1 ov2 _ _ w5 (ho1.kept hk5 (fun _ _ e => e)) ho2
  rw [HBY.out] at hHB
  have HHB := Lib.hid hHB
  have hCk5 := (HCK.out.quiet hk3).quiet hk5
  have hCv5 := (HCV.out.quiet hk3).quiet hk5
  obtain ⟨x5, y5, S5, R5, L5, M5, ex, ey, ex2, ey2, hT5, hRl5, hSe5, hLe5, hCk5, hCv5⟩ : ∃ (x5 : Loc) (y5 : RLoc) (S5 R5 : MS) (L5 M5 : List Rg), x5.q = x.q ∧ y5.q = y.q ∧ x5.mp = x.mp ∧ y5.mp = y.mp ∧ Tl b w5 x5 y5 S5 R5 L5 M5 (fun n => fpMp x L n ∨ fpR y M n) ∧ Rel S5 R5 (L5.map Rg.see) ∧ M5.map Rg.see = L5.map Rg.see ∧ L5.length ≤ L.length + 1 ∧ Cp b w5 x5 y5 L5 M5 kv s.k ∧ Cp b w5 x5 y5 L5 M5 vv s.v :=
    ⟨x, y, S, R, L, M, rfl, rfl, rfl, rfl, hT5, HRL.out.1, HRL.out.2, by omega, hCk5, hCv5⟩
  clear HRL HCK HCV HT2 HB2 HT1
  clear HMP HRP hHB hT3 hB4 hc1 ho1 ho2 hk3 hk5 HBY
  go_wp2_with fail
  refine HHB.out.mono ?_
  rintro e w6 ⟨rfl, rfl⟩
  go_wp2_with fail
  refine (spoil_any kv s.k _ hCk5.bs (by omega)).mono ?_
  rintro e w6 ⟨rfl, hk6⟩
  have hT6 := hT5.spoil hCk5.own hk6
  have hCv6 := hCv5.spoil hk6 HNE.out
  clear hT5 hCk5 hCv5 hk6
  go_wp2_with fail
  refine (spoil_any vv s.v _ hCv6.bs (by omega)).mono ?_
  rintro e w7 ⟨rfl, hk7⟩
  have hT7 := hT6.spoil hCv6.own hk7
  clear hT6 hCv6 hk7 HNE
  have hcb : ∀ w', Kept (fun n => fpMp x L n ∨ fpR y M n) b w' → w'.cell? ⟨g5, 2, none⟩ = some kv0 := fun w' hk => by rw [(hk.blk (fun e => HBX.out _ e rfl) hBX).cell]; rfl
  have HCB := Lib.hid hcb
  clear hcb hBX hL0 c0 c1 c4
  have hc2 := HCB.out w7 hT7.kp
  have h8 := mlook_any x5 S5 L5 kv0 s.k w7 hT7.p (hT7.raw HKR.out HKX.out) hRl5
  rw [ex] at h8
  have H8 := Lib.hid h8
  clear h8
  go_wp2_with fail
  refine H8.out.mono ?_
  rintro e w8 ⟨rfl, hk8⟩
  have hT8 := hT7.quiet hk8
  clear hT7 hk8 hc2 H8
  have hc2 := HCB.out w8 hT8.kp
  have h9 := rlook_any y5 S5 R5 M5 kv0 s.k w8 hT8.r hRl5 (hT8.raw HKR.out HKX.out)
  rw [ey] at h9
  have H9 := Lib.hid h9
  clear h9
  go_wp2_with fail
  refine H9.out.mono ?_
  rintro e w9 ⟨rfl, hk9⟩
  have hT9 := hT8.quiet hk9
  clear hT8 hk9 hc2 H9
  have hc2 := HCB.out w9 hT9.kp
  have ha := mval_any x5 S5 L5 kv0 s.k w9 hT9.p (hT9.raw HKR.out HKX.out) hRl5 rfl
  rw [ex] at ha
  have HA := Lib.hid ha
  clear ha
  go_wp2_with fail
  refine HA.out.mono ?_
  rintro e wa ⟨ov1, rfl, hv1, ho1, hka⟩
  have hTa := hT9.quiet hka
  have hn1 := hT9.new ho1
  clear hT9 hka hc2 HA
  have hc2 := HCB.out wa hTa.kp
  have hb := rval_any y5 S5 R5 M5 kv0 s.k wa hTa.r hRl5 hSe5 (hTa.raw HKR.out HKX.out)
  rw [ey] at hb
  have HB := Lib.hid hb
  clear hb
  go_wp2_with fail
  refine HB.out.mono ?_
  rintro e wb ⟨ov2, rfl, hv2, ho2, hkb⟩
  have hTb := hTa.quiet hkb
  have hv1b : Bs wb ov1 (valL S5 (L5.map Rg.see) s.k) := hv1.kept hkb (fun _ _ e => e)
  clear hTa hkb hc2 HB hv1 ho1 ho2
  have hc := mkeysB_any x5 S5 L5 wb hTb.p hRl5
  rw [ex] at hc
  have HC := Lib.hid hc
  clear hc
  go_wp2_with fail
  refine HC.out.mono ?_
  rintro e wc ⟨ov3, T1, rfl, hs3, hb3, ht3, hkc⟩
  have hTc := hTb.quiet hkc
  have hv1c := hv1b.kept hkc (fun _ _ e => e)
  have hv2c := hv2.kept hkc (fun _ _ e => e)
  clear hTb HC hv1b hv2 hkc
  have hd := rkeysB_any y5 S5 R5 M5 wc hTc.r hRl5
  rw [ey] at hd
  have HD := Lib.hid hd
  clear hd
  go_wp2_with fail
  refine HD.out.mono ?_
  rintro e wd ⟨ov4, T2, rfl, hs4, hb4, ht4, hkd⟩
  have hTd := hTc.quiet hkd
  have hv1d : Bs wd ov1 (valL S5 (L5.map Rg.see) s.k) := hv1c.kept hkd (fun _ _ e => e)
  have hv2d : Bs wd ov2 (valL S5 (L5.map Rg.see) s.k) := hv2c.kept hkd (fun _ _ e => e)
  have hs3d := hs3.kept hkd (fun _ _ e => e)
  have hb3d : ∀ z ∈ T1, By wd z.1 z.2 := fun z hz => (hb3 z hz).kept hkd (fun _ _ e => e)
  have hBy := hbytes_any ov1 ov2 _ _ wd hv1d.by_ hv2d.by_
  rw [show (valL S5 (L5.map Rg.see) s.k == valL S5 (L5.map Rg.see) s.k) = true by simp] at hBy
  have hlen : T1.length ≤ 1000000 := by
    have h1 : T1.length = R5.ent.length := by have := congrArg List.length ht3; simpa using this
    have h2 := hRl5.len
    have h3 := hRl5.few
    have h4 := hRl5.en
    omega
  have hLs := fun w' (hk : Kept (fun _ => False) wd w') => hlists_any ov3 ov4 T1 T2 w' (hs3d.kept hk (fun _ _ e => e)) (fun z hz => (hb3d z hz).kept hk (fun _ _ e => e)) (hs4.kept hk (fun _ _ e => e)) (fun z hz => (hb4 z hz).kept hk (fun _ _ e => e)) (ht3.trans ht4.symm) hlen
  have hvl1 := val_le (k := s.k) (S := S5) hTd.p
  have HBY := Lib.hid hBy
  have HLS := Lib.hid hLs
  clear hTc HD hv1c hv2c hs3 hb3 hs4 hb4 ht3 ht4 hkd hs3d hb3d hBy hLs hlen hv2d
  go_wp2_with fail
  refine HBY.out.mono ?_
  rintro e we ⟨rfl, rfl⟩
  go_wp2_with fail
  refine (HLS.out _ (Kept.refl _ _)).mono ?_
  rintro e wf ⟨rfl, hkf⟩
  have hTf := hTd.quiet hkf
  have hv1f : Bs wf ov1 (valL S5 (L5.map Rg.see) s.k) := hv1d.kept hkf (fun _ _ e => e)
  clear hTd hv1d hkf HBY HLS
  go_wp2_with fail
  refine (spoil_any ov1 _ _ hv1f hvl1).mono ?_
  rintro e wg ⟨rfl, hkg⟩
  have hTg := hTf.spoil hn1 hkg
  go_wp2_with fail
  go_ret
  exact ⟨rfl, x5, y5, S5, R5, L5, M5, ex, ey, ex2, ey2, hTg.base HKA.out, hRl5, hSe5, hLe5⟩

end Go.Proofs.YtahabogjfcdjkaaGreat

import Derived.Test.YtlkgmcacbfoijaaGreatEkx
import Derived.Test.YtlkgmcacbfoijaaGreatZav
set_option linter.unusedSimpArgs false
set_option linter.unusedVariables false
namespace Go.Proofs.YtlkgmcacbfoijaaGreat
open Go.RowKit

/-! ### a longest way -/
def pickC (V : Nat → Nat) : List Int → Option Int
  | [] => none
  | [j] => some j
  | j :: k :: _ => some (if V j.toNat < V k.toNat ∨ (V k.toNat = V j.toNat ∧ k < j) then k else j)
def wayG (l : List In) (V : Nat → Nat) : Nat → Nat → List Int
  | 0, i => [(i : Int)]
  | f + 1, i => match l[i]? with
    | none => [(i : Int)]
    | some x => match pickC V (nextC i x) with
      | none => [(i : Int)]
      | some j => (i : Int) :: wayG l V f j.toNat
theorem wayG_end {l : List In} {V : Nat → Nat} {f i : Nat} {x : In} (hx : l[i]? = some x) (h : pickC V (nextC i x) = none) : wayG l V (f + 1) i = [(i : Int)] := by
  unfold wayG
  rw [hx]
  simp only [h]
theorem wayG_go {l : List In} {V : Nat → Nat} {f i : Nat} {x : In} {j : Int} (hx : l[i]? = some x) (h : pickC V (nextC i x) = some j) : wayG l V (f + 1) i = (i : Int) :: wayG l V f j.toNat := by
  rw [wayG]
  rw [hx]
  simp only [h]
theorem pickC_mem {V : Nat → Nat} {N : List Int} {j : Int} (h : pickC V N = some j) : j ∈ N := by
  unfold pickC at h
  split at h
  · cases h
  · cases h; simp
  · rename_i a b r
    have : (if V a.toNat < V b.toNat ∨ (V b.toNat = V a.toNat ∧ b < a) then b else a) = j := Option.some.inj h
    rw [← this]
    split <;> simp
theorem wayG_same {l : List In} {V rk : Nat → Nat} (h : Falls l rk) : ∀ (f g i : Nat), Rch l i → rk i < f → rk i < g → wayG l V f i = wayG l V g i
  | 0, _, _, _, h1, _ => absurd h1 (Nat.not_lt_zero _)
  | _ + 1, 0, _, _, _, h2 => absurd h2 (Nat.not_lt_zero _)
  | f + 1, g + 1, i, hr, h1, h2 => by
    rw [wayG, wayG]
    cases hx : l[i]? with
    | none => rfl
    | some x =>
      cases hp : pickC V (nextC i x) with
      | none => simp only [hp]
      | some j =>
        simp only [hp]
        have := h.next i x hr hx j (pickC_mem hp)
        rw [wayG_same h f g _ this.2 (by omega) (by omega)]
theorem BM.kept2 {bw m : Nat} {a : Option Addr} {n c : Nat} {R : RuleP} {V : Nat → Nat} {w w' : World} {M : List (Int × Value)} {v : Value} (h : BM bw m a n c R V w M) (hk : Kept (fun k => v.ownBlock = some k) w w') (hv : ∀ g, v.ownBlock = some g → g ≠ m ∧ g ≠ bw) : BM bw m a n c R V w' M :=
  ⟨hk.blk (fun e => (hv _ e).2 rfl) h.s, h.m.kept hk (fun e => (hv _ e).1 rfl), h.ok⟩
set_option maxHeartbeats 16000000 in
set_option maxRecDepth 100000 in
theorem cWorst_any (l : List In) (a : Option Addr) (c : Nat) (w : World) (h : Ins w (.slice a l.length c) l) (hok : InsOk l) :
    Calls Tryz.prog 8 #[.slice a l.length c] w fun e w' =>
      (∃ va vn vc, e = .returned (.tuple #[.slice va vn vc, .int .i64 (costE l)]) ∧ (costE l = 0 → ∃ V rk, Tells longR l V rk ∧ Falls l rk ∧ Ints w' (.slice va vn vc) (wayG l V (rk 0 + 1) 0)) ∧ (costE l ≠ 0 → va = none ∧ vn = 0 ∧ vc = 0)) ∧ Kept (fun _ => False) w w' := by
  have hlen := hok.len
  have HBE := Lib.hid (fun W hI => begun_any l a c longR W hI hok)
  have HIN := Lib.hid (fun (W : World) (hk : Kept (fun _ => False) w W) => h.kept hk)
  have HFR := Lib.hid (fun hz V rk w0 h hT bw m hm0 i w M hr hk0 hB => from_any2 l a c longR V rk w0 h hok hz hT bw m hm0 i w M hr hk0 hB)
  have HNX := Lib.hid (fun i x W h hz hx hs => fNext_any l a c i x W h hok hz hx hs)
  clear h
  by_cases hc : costE l = 0
  case neg =>
    have hzd : (costE l != 0) = true := by simpa using hc
    have hzd' : (costE l == 0) = false := by simpa using hc
    have HZ := Lib.hid hc
    clear hc HFR HNX
    generalize costE l = r at *
    go_enter Tryz.func8, Tryz.ntmps8
    go_wp2_with fail
    refine (HBE.out w (HIN.out _ (Kept.refl _ w))).mono ?_
    rintro e w1 ⟨⟨p, rfl, hb⟩, hk1⟩
    clear hb
    go_wp2_with fail
    refine bodyPost_ret (v := .tuple #[.slice none 0 0, .int .i64 r]) (by simp [results, Tryz.results8, go_sem]) rfl ?_
    exact ⟨⟨_, _, _, rfl, fun h => absurd h HZ.out, fun _ => ⟨rfl, rfl, rfl⟩⟩, hk1⟩
  case pos =>
  obtain ⟨hz, hnb, hdp⟩ := costE_ok hc
  obtain ⟨rk, hF⟩ := falls_of hz hnb hdp
  have hT := tells_falls longR hF
  generalize hVV : (fun i => costF longR l (rk i + 1) i) = V at hT
  clear hVV
  have HVT := Lib.hid hT.hi
  have HTF := Lib.hid (And.intro hT hF)
  have HFR2 := Lib.hid (fun w0 h bw m hm0 i w M hr hk0 hB => HFR.out hz V rk w0 h hT bw m hm0 i w M hr hk0 hB)
  have HGO := Lib.hid (fun (i : Nat) (x : In) (hr : Rch l i) (hx : l[i]? = some x) (j : Int) (hj : j ∈ nextC i x) => (by
    obtain ⟨hil, hs⟩ := rch_ok hz hr
    obtain ⟨n, e, e2, e3, _⟩ := next_ok hz hx hs hj
    subst e
    have h1 := hF.next i x hr hx (n : Int) hj
    rw [Int.toNat_natCast] at h1
    refine ⟨n, rfl, e2, h1.2, h1.1, ?_⟩
    rcases Nat.lt_or_ge i n with h | h
    · exact h
    · exact absurd ⟨i, hil, x, hx, hr, n, hj, by omega⟩ hnb : ∃ n : Nat, j = n ∧ n < l.length ∧ Rch l n ∧ rk n < rk i ∧ i < n))
  have HNX2 := Lib.hid (fun i x W h hr hx => HNX.out i x W h hz hx (rch_ok hz hr).2)
  have HLT := Lib.hid (fun i (hr : Rch l i) => (rch_ok hz hr).1)
  rw [hc] at HBE ⊢
  clear HFR HNX hT hF hz hnb hdp hc
  obtain ⟨W, hW⟩ : ∃ W, wayG l V (rk 0 + 1) 0 = W := ⟨_, rfl⟩
  have HW := Lib.hid hW
  clear hW
  go_enter Tryz.func8, Tryz.ntmps8
  go_wp2_with fail
  refine (HBE.out w (HIN.out _ (Kept.refl _ w))).mono ?_
  rintro e w1 ⟨⟨p, rfl, hb⟩, hk1⟩
  obtain ⟨bw, m, rfl, hB, hM, hm⟩ := hb trivial
  have hB1 : BM bw m a l.length c longR V w1 [] := ⟨hB, hM, fun i v h => by simp [lookI] at h⟩
  have HB1 := Lib.hid hB1
  have HI1 := Lib.hid (HIN.out w1 hk1)
  have hml := hM.lt
  have hbl := hB.lt
  clear hb hB hM HBE hB1
  go_wp2_with fail
  have hO0 := ints_one w1 0
  have hk2 := (Kept.refl (fun _ => False) w1).alloc (.cells #[.int .i64 0] 3)
  have HS := Lib.hid (And.intro hO0 (And.intro hk2 (HB1.out.kept hk2)))
  clear hO0 hk2 HB1
  have hs1 := hk1.size
  go_loopg [6] (rk 0 + 1) (fun k ov wr => ∃ (i : Nat) (O : List Int) (ov' : Value) (M : List (Int × Value)), ov' = ov ∧ Rch l i ∧ rk i < k ∧ k ≤ rk 0 + 1 ∧ O.length ≤ i ∧ O ++ wayG l V k i = W ∧ Ints wr ov' (O ++ [(i : Int)]) ∧ (∀ g, ov'.ownBlock = some g → w1.heap.size ≤ g) ∧ BM bw m a l.length c longR V wr M ∧ Kept (fun k => k = m) w1 wr)
  case atStart => exact ⟨0, [], _, [], rfl, .zero, Nat.lt_succ_self _, Nat.le_refl _, by simp, HW.out, HS.out.1, fun g hg => Nat.le_of_eq (Option.some.inj hg), HS.out.2.2, HS.out.2.1.mono (fun _ _ h => h.elim)⟩
  case round =>
    clear HS
    obtain ⟨i, O, ov, M, rfl, hr, hrk, hkb, hol, hway, hO, hown, hBM, hK⟩ := hrel
    obtain ⟨x, hx⟩ : ∃ x, l[i]? = some x := ⟨_, List.getElem?_eq_getElem (HLT.out i hr)⟩
    have hil := HLT.out i hr
    obtain ⟨gk', rfl⟩ : ∃ k, gk = k + 1 := ⟨gk - 1, by omega⟩
    have hk0 : Kept (fun _ => False) w wr := hk1.trans hK (fun k hk e => by have e : k = m := e; omega)
    have HNN := Lib.hid (HNX2.out i x wr (HIN.out _ hk0) hr hx)
    have HGG := Lib.hid (HGO.out i x hr hx)
    obtain ⟨og, ocap, hov, hoc, hogl⟩ := Sl.some_ hO (by simp)
    have hol2 : (List.map icell' (O ++ [(i : Int)])).length = O.length + 1 := by simp
    rw [hol2] at hov
    subst hov
    have hoc' := Ints.cell hO (i := O.length) (x := (i : Int)) (by simp)
    have HO := Lib.hid hO
    have HOW := Lib.hid hown
    have HBM := Lib.hid hBM
    have HKK := Lib.hid hK
    have HK0 := Lib.hid hk0
    have HWA := Lib.hid hway
    have HX := Lib.hid hx
    have hnl := next_len i x
    have hml2 := hBM.m.lt
    clear hO hown hBM hK hk0 hway hx hol2 hoc
    have hogm : og ≠ m ∧ og ≠ bw := ⟨fun e => by have := HOW.out og rfl; omega, fun e => by have := HOW.out og rfl; omega⟩
    have HOG := Lib.hid hogm
    clear hogm
    go_wp2_with fail
    refine HNN.out.mono ?_
    rintro e w6 ⟨⟨n, nc, na, rfl, hN, hno⟩, hk6⟩
    have hn := Sl.len hN
    rw [List.length_map] at hn
    subst hn
    have HK6 := Lib.hid (HKK.out.trans hk6 (fun _ _ h => h.elim))
    have HK06 := Lib.hid (HK0.out.trans hk6 (fun _ _ h => h))
    have HB6 := Lib.hid (HBM.out.kept hk6)
    have HO6 := Lib.hid (Sl.kept hk6 HO.out (fun _ _ h => h))
    have hs6 := hk6.size
    have hno := Lib.hid hno
    have HPX : Hid (∀ N, nextC i x = N → ∀ j : Nat, pickC V N = some (j : Int) → (O ++ [(i : Int)]) ++ wayG l V gk' j = W) := Lib.hid (fun N hN j hj => by
      have h := HWA.out
      rw [wayG_go HX.out (by rw [hN]; exact hj)] at h
      rw [← h]
      simp)
    have HPE : Hid (pickC V (nextC i x) = none → O ++ [(i : Int)] = W) := Lib.hid (fun hN => by
      have h := HWA.out
      rw [wayG_end HX.out hN] at h
      exact h)
    clear HNN hk6 HBM HKK HK0 HO HWA hoc' hogl
    cases hNN : nextC i x with
    | nil =>
      rw [hNN] at hN HPE
      have hR := HPE.out rfl
      have HRR := Lib.hid hR
      clear hR HPE HPX hno hN
      go_wp2_with fail
      refine bodyPost_ret (v := .tuple #[.slice (some ⟨og, 0, none⟩) (O.length + 1) ocap, .int .i64 0]) (by simp [results, Tryz.results8, go_sem]) rfl ?_
      exact ⟨⟨_, _, _, rfl, fun _ => ⟨V, rk, HTF.out.1, HTF.out.2, by rw [HW.out, ← HRR.out]; exact HO6.out⟩, fun h => absurd rfl h⟩, hk1.trans HK6.out (fun k hk e => by have e : k = m := e; omega)⟩
    | cons j0 r0 =>
      cases r0 with
      | nil =>
        obtain ⟨jn, rfl, hj2⟩ := HGG.out j0 (by rw [hNN]; simp)
        have HGJ := Lib.hid (And.intro True.intro hj2)
        have HWY := Lib.hid (HPX.out _ hNN jn rfl)
        rw [hNN] at hN
        have hno2 := hno.out
        rw [hNN] at hno2
        obtain ⟨ng, ncap, hnv, hnc, hngl⟩ := Sl.some_ hN (by simp)
        cases hnv
        have hn0 := Ints.cell hN (i := 0) (x := (jn : Int)) rfl
        have hjl := hj2.1
        clear hj2 HGG HPX HPE hN hno hno2 hnc hNN
        have HOO := Lib.hid (HO6.out : Ints w6 (.slice (some ⟨og, 0, none⟩) (O.length + 1) ocap) (O ++ [(i : Int)]))
        have hlo : (O ++ [(i : Int)]).length < 1073741824 := by simp; omega
        go_wp2_with (at_builtin; refine wpList_pushI (w := w6) rfl (.tmp 71) (.tmp 73) rfl (.slice (some ⟨og, 0, none⟩) (O.length + 1) ocap) (O ++ [(i : Int)]) (jn : Int) rfl rfl HOO.out hlo ?_; intro v9 w9 hI9 hk9 hv9)
        have H9 := Lib.hid (And.intro hI9 (And.intro hk9 hv9))
        clear hI9 hk9 hv9
        go_roundg gk'
        case measure => omega
        case rel => exact ⟨jn, O ++ [(i : Int)], v9, _, rfl, HGJ.out.2.2.1, by have := HGJ.out.2.2.2.1; omega, by omega, by have := HGJ.out.2.2.2.2; simp; omega, HWY.out, H9.out.1, fun g hg => by
          rcases H9.out.2.2 g hg with h | h
          · exact HOW.out g h
          · have := (HK6.out).size
            omega, (HB6.out).kept2 H9.out.2.1 (fun g hg => by have := HOG.out; have e : og = g := Option.some.inj hg; subst e; exact this), (HK6.out).trans H9.out.2.1 (fun g hg e => by have := HOW.out g e; omega)⟩
      | cons k0 r1 =>
        have hr1 : r1 = [] := by
          rw [hNN] at hnl
          cases r1 with
          | nil => rfl
          | cons _ _ => simp at hnl
        subst hr1
        obtain ⟨jn, rfl, hj2⟩ := HGG.out j0 (by rw [hNN]; simp)
        obtain ⟨kn, rfl, hk2⟩ := HGG.out k0 (by rw [hNN]; simp)
        have HPK := Lib.hid (HPX.out _ hNN)
        rw [hNN] at hN
        have hno2 := hno.out
        rw [hNN] at hno2
        obtain ⟨ng, ncap, hnv, hnc, hngl⟩ := Sl.some_ hN (by simp)
        cases hnv
        have hnm : ng ≠ m := fun e => by have := hno2 ng rfl; omega
        have hn0 := Ints.cell hN (i := 0) (x := (jn : Int)) rfl
        have hn1 := Ints.cell hN (i := 1) (x := (kn : Int)) rfl
        have HGJ := Lib.hid hj2
        have HGK := Lib.hid hk2
        have hjl := hj2.1
        have hkl := hk2.1
        have HCJ := Lib.hid (fun M W hk hB => HFR2.out w (HIN.out w (Kept.refl _ w)) bw m hm jn W M hj2.2.1 hk hB)
        have HCK := Lib.hid (fun M W hk hB => HFR2.out w (HIN.out w (Kept.refl _ w)) bw m hm kn W M hk2.2.1 hk hB)
        have hvj := HVT.out jn
        have hvk := HVT.out kn
        unfold top at hvj hvk
        clear hj2 hk2 HGG HPX HPE hN hno hno2 hnc hNN
        go_wp2_with fail
        refine wp_region_mix [.w, .w, .w, .l, .k, .w, .w, .w, .l, .t, .w, .w] (by kernel_rfl) (by kernel_rfl) (fun W => ∃ M', BM bw m a l.length c longR V W M' ∧ Kept (fun k => k = m) w6 W) ?_
        have HC : ∃ M', BM bw m a l.length c longR V w6.drew M' ∧ Kept (fun k => k = m) w6 w6.drew := ⟨_, HB6.out.kept (Kept.refl _ w6).drew, (Kept.refl _ w6).drew⟩
        repeat (refine mix_w1 ?_; go_big_quiet_step (fail); refine wpQuiet_nil ?_)
        refine mix_load1 HC rfl 3 (.tmp 45) rfl (fun w => by kernel_rfl) ⟨ng, 0, none⟩ (.int .i64 jn) rfl (fun w' hw' => by obtain ⟨M', _, hk⟩ := hw'; exact (hk.cell (p := ⟨ng, 0, none⟩) hngl hnm).trans hn0) ?_
        simp only [Act.put, List.setIfInBounds_toArray, List.set_cons_succ, List.set_cons_zero]
        refine mix_k HC fun Q' hQ' => ?_
        go_wp2_with fail
        refine (HCJ.out _ _ HK06.out.drew (HB6.out.kept (Kept.refl _ w6).drew)).mono ?_
        rintro e w7 ⟨rfl, M7, hB7, hk7⟩
        have HC7 : ∃ M', BM bw m a l.length c longR V w7 M' ∧ Kept (fun k => k = m) w6 w7 := ⟨M7, hB7, (Kept.refl _ w6).drew.trans hk7 (fun _ _ h => h)⟩
        have hk06 : Kept (fun _ => False) w w7 := HK06.out.drew.trans hk7 (fun k hk e => by have e : k = m := e; omega)
        have HB7 := Lib.hid hB7
        go_wp2_with fail
        refine hQ' _ _ HC7 ?_
        clear hQ' Q' HC hB7 hk7
        repeat (refine mix_w1 ?_; go_big_quiet_step (fail); refine wpQuiet_nil ?_)
        refine mix_load1 HC7 rfl 3 (.tmp 50) rfl (fun w => by kernel_rfl) ⟨ng, 1, none⟩ (.int .i64 kn) rfl (fun w' hw' => by obtain ⟨M', _, hk⟩ := hw'; exact (hk.cell (p := ⟨ng, 1, none⟩) hngl hnm).trans hn1) ?_
        simp only [Act.put, List.setIfInBounds_toArray, List.set_cons_succ, List.set_cons_zero]
        have HK67 := Lib.hid (HC7.choose_spec.2)
        refine mix_t fun Q' hQ' => ?_
        go_wp2_with fail
        refine (HCK.out _ _ hk06 HB7.out).mono ?_
        rintro e w8 ⟨rfl, M8, hB8, hk8⟩
        have HB8 := Lib.hid hB8
        have HK8 := Lib.hid ((HK6.out.trans HK67.out (fun _ _ h => h)).trans hk8 (fun _ _ h => h))
        have hK68 := HK67.out.trans hk8 (fun _ _ h => h)
        have HO8 := Lib.hid (Sl.kept hK68 HO6.out (fun g hg e => by have e2 : og = g := Option.some.inj hg; have e : g = m := e; exact HOG.out.1 (e2.trans e)))
        have hn1' : w8.cell? ⟨ng, 1, none⟩ = some (.int .i64 kn) := (hK68.cell (p := ⟨ng, 1, none⟩) hngl hnm).trans hn1
        have hngl8 := Nat.lt_of_lt_of_le hngl hK68.size
        clear HC7 hB8 hk8 hK68 HK67 HB7 hk06 HCJ HCK hn0 hn1 hngl HO6 HB6 HK6 HK06
        go_wp2_with fail
        repeat (refine mix_w1 ?_; go_big_quiet_step (fail); refine wpQuiet_nil ?_)
        refine mix_done ?_
        have HVJ : Hid (V jn = V jn) := Lib.hid rfl
        by_cases h1 : V jn < V kn
        · have q1 : decide (V jn < V kn) = true := decide_eq_true h1
          have HWY := Lib.hid (HPK.out kn (by show some (if V (jn : Int).toNat < V (kn : Int).toNat ∨ _ then _ else _) = _; rw [if_pos (.inl (by simpa using h1))]))
          clear h1 HPK
          have HOO := Lib.hid (HO8.out : Ints w8 (.slice (some ⟨og, 0, none⟩) (O.length + 1) ocap) (O ++ [(i : Int)]))
          have hlo : (O ++ [(i : Int)]).length < 1073741824 := by simp; omega
          go_wp2_with (at_builtin; refine wpList_pushI (w := w8) rfl (.tmp 71) (.tmp 73) rfl (.slice (some ⟨og, 0, none⟩) (O.length + 1) ocap) (O ++ [(i : Int)]) (kn : Int) rfl rfl HOO.out hlo ?_; intro v9 w9 hI9 hk9 hv9)
          have H9 := Lib.hid (And.intro hI9 (And.intro hk9 hv9))
          clear hI9 hk9 hv9
          go_roundg gk'
          case measure => omega
          case rel => exact ⟨kn, O ++ [(i : Int)], v9, _, rfl, HGK.out.2.1, by have := HGK.out.2.2.1; omega, by omega, by have := HGK.out.2.2.2; simp; omega, HWY.out, H9.out.1, fun g hg => by
            rcases H9.out.2.2 g hg with h | h
            · exact HOW.out g h
            · have := (HK8.out).size
              omega, (HB8.out).kept2 H9.out.2.1 (fun g hg => by have := HOG.out; have e : og = g := Option.some.inj hg; subst e; exact this), (HK8.out).trans H9.out.2.1 (fun g hg e => by have := HOW.out g e; omega)⟩
        · have q1 : decide (V jn < V kn) = false := decide_eq_false h1
          by_cases h2 : V kn = V jn
          · have q2 : ((V kn : Int) == (V jn : Int)) = true := by rw [h2]; simp
            have q2' : (V kn == V jn) = true := by rw [h2]; simp
            by_cases h3 : kn < jn
            · have q3 : decide (kn < jn) = true := decide_eq_true h3
              have q3' : decide ((kn : Int) < (jn : Int)) = true := decide_eq_true (by omega)
              have HWY := Lib.hid (HPK.out kn (by show some (if V (jn : Int).toNat < V (kn : Int).toNat ∨ _ then _ else _) = _; rw [if_pos (.inr ⟨by simpa using h2, by omega⟩)]))
              clear h1 h2 h3 HPK
              have HOO := Lib.hid (HO8.out : Ints w8 (.slice (some ⟨og, 0, none⟩) (O.length + 1) ocap) (O ++ [(i : Int)]))
              have hlo : (O ++ [(i : Int)]).length < 1073741824 := by simp; omega
              go_wp2_with (at_builtin; refine wpList_pushI (w := w8) rfl (.tmp 71) (.tmp 73) rfl (.slice (some ⟨og, 0, none⟩) (O.length + 1) ocap) (O ++ [(i : Int)]) (kn : Int) rfl rfl HOO.out hlo ?_; intro v9 w9 hI9 hk9 hv9)
              have H9 := Lib.hid (And.intro hI9 (And.intro hk9 hv9))
              clear hI9 hk9 hv9
              go_roundg gk'
              case measure => omega
              case rel => exact ⟨kn, O ++ [(i : Int)], v9, _, rfl, HGK.out.2.1, by have := HGK.out.2.2.1; omega, by omega, by have := HGK.out.2.2.2; simp; omega, HWY.out, H9.out.1, fun g hg => by
                rcases H9.out.2.2 g hg with h | h
                · exact HOW.out g h
                · have := (HK8.out).size
                  omega, (HB8.out).kept2 H9.out.2.1 (fun g hg => by have := HOG.out; have e : og = g := Option.some.inj hg; subst e; exact this), (HK8.out).trans H9.out.2.1 (fun g hg e => by have := HOW.out g e; omega)⟩
            · have q3 : decide (kn < jn) = false := decide_eq_false h3
              have q3' : decide ((kn : Int) < (jn : Int)) = false := decide_eq_false (by omega)
              have HWY := Lib.hid (HPK.out jn (by
                show some (if V (jn : Int).toNat < V (kn : Int).toNat ∨ (V (kn : Int).toNat = V (jn : Int).toNat ∧ (kn : Int) < jn) then (kn : Int) else jn) = _
                rw [if_neg]
                rintro (h | ⟨_, h⟩)
                · exact h1 (by simpa using h)
                · omega))
              clear h1 h2 h3 HPK
              have HOO := Lib.hid (HO8.out : Ints w8 (.slice (some ⟨og, 0, none⟩) (O.length + 1) ocap) (O ++ [(i : Int)]))
              have hlo : (O ++ [(i : Int)]).length < 1073741824 := by simp; omega
              go_wp2_with (at_builtin; refine wpList_pushI (w := w8) rfl (.tmp 71) (.tmp 73) rfl (.slice (some ⟨og, 0, none⟩) (O.length + 1) ocap) (O ++ [(i : Int)]) (jn : Int) rfl rfl HOO.out hlo ?_; intro v9 w9 hI9 hk9 hv9)
              have H9 := Lib.hid (And.intro hI9 (And.intro hk9 hv9))
              clear hI9 hk9 hv9
              go_roundg gk'
              case measure => omega
              case rel => exact ⟨jn, O ++ [(i : Int)], v9, _, rfl, HGJ.out.2.1, by have := HGJ.out.2.2.1; omega, by omega, by have := HGJ.out.2.2.2; simp; omega, HWY.out, H9.out.1, fun g hg => by
                rcases H9.out.2.2 g hg with h | h
                · exact HOW.out g h
                · have := (HK8.out).size
                  omega, (HB8.out).kept2 H9.out.2.1 (fun g hg => by have := HOG.out; have e : og = g := Option.some.inj hg; subst e; exact this), (HK8.out).trans H9.out.2.1 (fun g hg e => by have := HOW.out g e; omega)⟩
          · have q2 : ((V kn : Int) == (V jn : Int)) = false := beq_eq_false_iff_ne.2 (by omega)
            have q2' : (V kn == V jn) = false := beq_eq_false_iff_ne.2 h2
            have HWY := Lib.hid (HPK.out jn (by
              show some (if V (jn : Int).toNat < V (kn : Int).toNat ∨ (V (kn : Int).toNat = V (jn : Int).toNat ∧ (kn : Int) < jn) then (kn : Int) else jn) = _
              rw [if_neg]
              rintro (h | ⟨h, _⟩)
              · exact h1 (by simpa using h)
              · exact h2 (by simpa using h)))
            clear h1 h2 HPK
            have HOO := Lib.hid (HO8.out : Ints w8 (.slice (some ⟨og, 0, none⟩) (O.length + 1) ocap) (O ++ [(i : Int)]))
            have hlo : (O ++ [(i : Int)]).length < 1073741824 := by simp; omega
            go_wp2_with (at_builtin; refine wpList_pushI (w := w8) rfl (.tmp 71) (.tmp 73) rfl (.slice (some ⟨og, 0, none⟩) (O.length + 1) ocap) (O ++ [(i : Int)]) (jn : Int) rfl rfl HOO.out hlo ?_; intro v9 w9 hI9 hk9 hv9)
            have H9 := Lib.hid (And.intro hI9 (And.intro hk9 hv9))
            clear hI9 hk9 hv9
            go_roundg gk'
            case measure => omega
            case rel => exact ⟨jn, O ++ [(i : Int)], v9, _, rfl, HGJ.out.2.1, by have := HGJ.out.2.2.1; omega, by omega, by have := HGJ.out.2.2.2; simp; omega, HWY.out, H9.out.1, fun g hg => by
              rcases H9.out.2.2 g hg with h | h
              · exact HOW.out g h
              · have := (HK8.out).size
                omega, (HB8.out).kept2 H9.out.2.1 (fun g hg => by have := HOG.out; have e : og = g := Option.some.inj hg; subst e; exact this), (HK8.out).trans H9.out.2.1 (fun g hg e => by have := HOW.out g e; omega)⟩

end Go.Proofs.YtlkgmcacbfoijaaGreat

set_option linter.unusedSimpArgs false
set_option linter.unusedVariables false
namespace Go.Proofs.YtlkgmcacbfoijaaGreat

/-! ### the document's Depth: plain -/
/-- one name of a row, a row, all rows -/
def rx1 (k : Nat) (s : DS) (j : Int) : DS := if s.1.getD k 0 < s.1.getD j.toNat 0 + 1 then (s.1.set k (s.1.getD j.toNat 0 + 1), true) else s
def rxK (k : Nat) (js : List Int) (s : DS) : DS := js.foldl (rx1 k) s
def rxR (L : List (List Int)) (m : Nat) (s : DS) : DS := (List.range m).foldl (fun s k => rxK k (L.getD k []) s) s
def rxN (L : List (List Int)) : Nat → List Int
  | 0 => List.replicate L.length 1
  | r + 1 => (rxR L L.length (rxN L r, false)).1
theorem rxK_cons (k : Nat) (j : Int) (js : List Int) (s : DS) : rxK k (j :: js) s = rxK k js (rx1 k s j) := rfl
theorem rxR_succ (L : List (List Int)) (m : Nat) (s : DS) : rxR L (m + 1) s = rxK m (L.getD m []) (rxR L m s) := by
  unfold rxR
  rw [List.range_succ, List.foldl_append]
  rfl
/-- what a step keeps -/
structure Up (lam : Nat → Int) (D D' : List Int) : Prop where
  len : D'.length = D.length
  up : ∀ k, D.getD k 0 ≤ D'.getD k 0
  hi : (∀ k, k < D.length → D.getD k 0 ≤ lam k) → ∀ k, k < D.length → D'.getD k 0 ≤ lam k
theorem Up.refl (lam : Nat → Int) (D : List Int) : Up lam D D := ⟨rfl, fun _ => Int.le_refl _, fun h => h⟩
theorem Up.trans {lam : Nat → Int} {A B C : List Int} (h : Up lam A B) (k : Up lam B C) : Up lam A C :=
  ⟨k.len.trans h.len, fun i => Int.le_trans (h.up i) (k.up i), fun hh i hi => k.hi (fun j hj => h.hi hh j (by rw [← h.len]; exact hj)) i (by rw [h.len]; exact hi)⟩
theorem rx1_up {lam : Nat → Int} {k : Nat} {s : DS} {j : Int} (hk : k < s.1.length) (hj : j.toNat < s.1.length) (hl : lam j.toNat + 1 ≤ lam k) : Up lam s.1 (rx1 k s j).1 := by
  unfold rx1
  split
  · rename_i h
    refine ⟨by simp, fun i => ?_, fun hh i hi => ?_⟩
    · show s.1.getD i 0 ≤ (s.1.set k _).getD i 0
      rw [getD_set _ _ _ hk]
      split
      · rename_i e; subst e; omega
      · exact Int.le_refl _
    · show (s.1.set k _).getD i 0 ≤ _
      rw [getD_set _ _ _ hk]
      split
      · rename_i e; subst e
        have := hh j.toNat hj
        omega
      · exact hh i hi
  · exact Up.refl _ _
theorem rx1_got {k : Nat} {s : DS} {j : Int} (hk : k < s.1.length) : s.1.getD j.toNat 0 + 1 ≤ (rx1 k s j).1.getD k 0 := by
  unfold rx1
  split
  · show _ ≤ (s.1.set k _).getD k 0
    rw [getD_set _ _ _ hk, if_pos rfl]
    exact Int.le_refl _
  · omega
theorem rxK_up {lam : Nat → Int} {k : Nat} : ∀ (js : List Int) (s : DS), k < s.1.length → (∀ j ∈ js, j.toNat < s.1.length ∧ lam j.toNat + 1 ≤ lam k) → Up lam s.1 (rxK k js s).1
  | [], s, _, _ => Up.refl _ _
  | j :: js, s, hk, h => by
    rw [rxK_cons]
    have h1 := rx1_up (lam := lam) (s := s) (j := j) hk (h j (by simp)).1 (h j (by simp)).2
    exact h1.trans (rxK_up js _ (by rw [h1.len]; exact hk) (fun x hx => by rw [h1.len]; exact h x (by simp [hx])))
theorem rxK_got {lam : Nat → Int} {k : Nat} : ∀ (js : List Int) (s : DS), k < s.1.length → (∀ j ∈ js, j.toNat < s.1.length ∧ lam j.toNat + 1 ≤ lam k) → ∀ j ∈ js, s.1.getD j.toNat 0 + 1 ≤ (rxK k js s).1.getD k 0
  | [], s, _, _ => fun j hj => by simp at hj
  | j :: js, s, hk, h => fun x hx => by
    rw [rxK_cons]
    have h1 := rx1_up (lam := lam) (s := s) (j := j) hk (h j (by simp)).1 (h j (by simp)).2
    have hk1 : k < (rx1 k s j).1.length := by rw [h1.len]; exact hk
    have hr : ∀ y ∈ js, y.toNat < (rx1 k s j).1.length ∧ lam y.toNat + 1 ≤ lam k := fun y hy => by rw [h1.len]; exact h y (by simp [hy])
    rcases List.mem_cons.1 hx with rfl | hx
    · exact Int.le_trans (rx1_got hk) ((rxK_up js _ hk1 hr).up k)
    · have := rxK_got js _ hk1 hr x hx
      have := h1.up x.toNat
      omega
/-- levels: one more than the highest of those that are named -/
structure Lev (L : List (List Int)) (lam : Nat → Int) : Prop where
  one : ∀ k, k < L.length → 1 ≤ lam k
  down : ∀ k, k < L.length → ∀ j ∈ L.getD k [], lam j.toNat + 1 ≤ lam k
  tight : ∀ k, k < L.length → lam k = 1 ∨ ∃ j ∈ L.getD k [], lam k = lam j.toNat + 1
theorem rxR_up {L : List (List Int)} {lam : Nat → Int} (hL : InL L) (hv : ∀ k, k < L.length → ∀ j ∈ L.getD k [], lam j.toNat + 1 ≤ lam k) : ∀ (m : Nat) (s : DS), s.1.length = L.length → m ≤ L.length → Up lam s.1 (rxR L m s).1
  | 0, s, _, _ => Up.refl _ _
  | m + 1, s, hs, hm => by
    rw [rxR_succ]
    have h1 := rxR_up hL hv m s hs (by omega)
    exact h1.trans (rxK_up _ _ (by rw [h1.len, hs]; omega) (fun j hj => by
      have := hL.at_ j hj
      rw [h1.len, hs]
      exact ⟨by omega, hv m (by omega) j hj⟩))
theorem rxR_got {L : List (List Int)} {lam : Nat → Int} (hL : InL L) (hv : ∀ k, k < L.length → ∀ j ∈ L.getD k [], lam j.toNat + 1 ≤ lam k) : ∀ (m : Nat) (s : DS), s.1.length = L.length → m ≤ L.length → ∀ k, k < m → ∀ j ∈ L.getD k [], s.1.getD j.toNat 0 + 1 ≤ (rxR L m s).1.getD k 0
  | 0, s, _, _ => fun k hk => by omega
  | m + 1, s, hs, hm => fun k hk j hj => by
    rw [rxR_succ]
    have h1 := rxR_up hL hv m s hs (by omega)
    have hrow : ∀ j ∈ L.getD m [], j.toNat < (rxR L m s).1.length ∧ lam j.toNat + 1 ≤ lam m := fun j hj => by
      have := hL.at_ j hj
      rw [h1.len, hs]
      exact ⟨by omega, hv m (by omega) j hj⟩
    have hml : m < (rxR L m s).1.length := by rw [h1.len, hs]; omega
    by_cases e : k = m
    · subst e
      have h2 := rxK_got (lam := lam) _ _ hml hrow j hj
      have h3 := h1.up j.toNat
      omega
    · have h2 := rxR_got hL hv m s hs (by omega) k (by omega) j hj
      have h3 := (rxK_up (lam := lam) _ _ hml hrow).up k
      omega
theorem rxN_len (L : List (List Int)) (hL : InL L) : ∀ r, (rxN L r).length = L.length
  | 0 => by simp [rxN]
  | r + 1 => by
    unfold rxN
    have hs : ∀ (k : Nat) (js : List Int) (s : DS), (rxK k js s).1.length = s.1.length := by
      intro k js
      induction js with
      | nil => exact fun s => rfl
      | cons j js ih =>
        intro s
        rw [rxK_cons, ih]
        unfold rx1
        split <;> simp
    have hm : ∀ (m : Nat) (s : DS), (rxR L m s).1.length = s.1.length := by
      intro m
      induction m with
      | zero => exact fun s => rfl
      | succ m ih =>
        intro s
        rw [rxR_succ, hs, ih]
    rw [hm]
    exact rxN_len L hL r
/-- nothing has changed: all rows are below -/
theorem rx1_flag {k : Nat} {s : DS} {j : Int} (h : (rx1 k s j).2 = false) : rx1 k s j = s ∧ s.2 = false ∧ s.1.getD j.toNat 0 + 1 ≤ s.1.getD k 0 := by
  unfold rx1 at h ⊢
  split at h
  · cases h
  · rename_i hn
    rw [if_neg hn]
    exact ⟨rfl, h, by omega⟩
theorem rxK_flag {k : Nat} : ∀ (js : List Int) (s : DS), (rxK k js s).2 = false → rxK k js s = s ∧ s.2 = false ∧ ∀ j ∈ js, s.1.getD j.toNat 0 + 1 ≤ s.1.getD k 0
  | [], s, h => ⟨rfl, h, fun j hj => by simp at hj⟩
  | j :: js, s, h => by
    rw [rxK_cons] at h ⊢
    obtain ⟨a, b, c⟩ := rxK_flag js _ h
    obtain ⟨a', b', c'⟩ := rx1_flag b
    rw [a'] at a b c ⊢
    exact ⟨a, b, fun x hx => by
      rcases List.mem_cons.1 hx with rfl | hx
      · exact c'
      · exact c x hx⟩
theorem rxR_flag {L : List (List Int)} : ∀ (m : Nat) (s : DS), (rxR L m s).2 = false → rxR L m s = s ∧ s.2 = false ∧ ∀ k, k < m → ∀ j ∈ L.getD k [], s.1.getD j.toNat 0 + 1 ≤ s.1.getD k 0
  | 0, s, h => ⟨rfl, h, fun k hk => by omega⟩
  | m + 1, s, h => by
    rw [rxR_succ] at h ⊢
    obtain ⟨a, b, c⟩ := rxK_flag _ _ h
    obtain ⟨a', b', c'⟩ := rxR_flag m s b
    rw [a'] at a b c ⊢
    refine ⟨a, b, fun k hk j hj => ?_⟩
    by_cases e : k = m
    · subst e; exact c j hj
    · exact c' k (by omega) j hj

end Go.Proofs.YtlkgmcacbfoijaaGreat


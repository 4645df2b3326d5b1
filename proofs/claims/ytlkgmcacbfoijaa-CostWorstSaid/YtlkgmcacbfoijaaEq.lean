import Derived.Test.YtlkgmcacbfoijaaEm
import Derived.Test.YtlkgmcacbfoijaaEl
set_option linter.unusedSimpArgs false
set_option linter.unusedVariables false
namespace Go.Proofs.Ytlkgmcacbfoijaa
open Go.RowKit


/-! ### a longest way: plain -/
theorem way_head (l : List In) (V : Nat → Nat) : ∀ f i, (wayG l V f i)[0]? = some (i : Int)
  | 0, i => rfl
  | f + 1, i => by
    rw [wayG]
    cases l[i]? with
    | none => rfl
    | some x =>
      simp only
      cases pickC V (nextC i x) with
      | none => rfl
      | some j => rfl
theorem pick_none {V : Nat → Nat} {N : List Int} (h : pickC V N = none) : N = [] := by
  unfold pickC at h
  split at h
  · rfl
  · cases h
  · cases h
structure StepW (l : List In) (L : List Int) (k : Nat) (n : Nat) : Prop where
  rch : Rch l n
  more : ∀ z, L[k + 1]? = some z → ∃ x, l[n]? = some x ∧ z ∈ nextC n x
  last : L[k + 1]? = none → ∃ x, l[n]? = some x ∧ nextC n x = []
theorem way_steps {l : List In} {V rk : Nat → Nat} (hz : checkI l = 0) (hF : Falls l rk) : ∀ (f i : Nat), Rch l i → rk i < f → ∀ (k : Nat) (y : Int), (wayG l V f i)[k]? = some y → ∃ n : Nat, y = n ∧ StepW l (wayG l V f i) k n
  | 0, _, _, h, _, _, _ => absurd h (Nat.not_lt_zero _)
  | f + 1, i, hr, hf, k, y, hy => by
    obtain ⟨hil, hs⟩ := rch_ok hz hr
    obtain ⟨x, hx⟩ : ∃ x, l[i]? = some x := ⟨_, List.getElem?_eq_getElem hil⟩
    cases hp : pickC V (nextC i x) with
    | none =>
      rw [wayG_end hx hp] at hy ⊢
      cases k with
      | zero =>
        have : y = i := by simpa using hy.symm
        exact ⟨i, this, hr, fun z hz => by simp at hz, fun _ => ⟨x, hx, pick_none hp⟩⟩
      | succ k => simp at hy
    | some j =>
      have hjm := pickC_mem hp
      have hj := hF.next i x hr hx j hjm
      obtain ⟨n, rfl, _⟩ := next_ok hz hx hs hjm
      rw [Int.toNat_natCast] at hj
      rw [wayG_go hx hp, Int.toNat_natCast] at hy ⊢
      cases k with
      | zero =>
        have : y = i := by simpa using hy.symm
        refine ⟨i, this, hr, fun z hz => ?_, fun hn => ?_⟩
        · rw [List.getElem?_cons_succ, way_head] at hz
          cases hz
          exact ⟨x, hx, hjm⟩
        · rw [List.getElem?_cons_succ, way_head] at hn
          cases hn
      | succ k =>
        rw [List.getElem?_cons_succ] at hy
        obtain ⟨m, hm, h1, h2, h3⟩ := way_steps hz hF f n hj.2 (by omega) k y hy
        exact ⟨m, hm, h1, fun z hz => h2 z (by rwa [List.getElem?_cons_succ] at hz), fun hn => h3 (by rwa [List.getElem?_cons_succ] at hn)⟩
theorem way_cost {l : List In} {V rk : Nat → Nat} (hz : checkI l = 0) (hnb : ¬ HasBack l l.length) (hF : Falls l rk) (hT : Tells longR l V rk) : ∀ (f i : Nat), Rch l i → rk i < f → (∀ (k n : Nat) (x : In), (wayG l V f i)[k]? = some (n : Int) → l[n]? = some x → subB x = false) → (wayG l V f i).length = V i ∧ (wayG l V f i).length + i ≤ l.length
  | 0, _, _, h, _ => absurd h (Nat.not_lt_zero _)
  | f + 1, i, hr, hf, hns => by
    obtain ⟨hil, hs⟩ := rch_ok hz hr
    obtain ⟨x, hx⟩ : ∃ x, l[i]? = some x := ⟨_, List.getElem?_eq_getElem hil⟩
    have h4096 : l.length ≤ 4096 := (slots_zero (check_parts hz).1).2.1
    have hsub := hns 0 i x (way_head l V (f + 1) i) hx
    have hval := hT.val i x hr hx
    have hcal : calC longR V i x = 1 := by unfold calC; rw [if_neg (by rw [hsub]; decide)]
    rw [hcal] at hval
    cases hp : pickC V (nextC i x) with
    | none =>
      rw [pick_none hp] at hval
      rw [wayG_end hx hp]
      exact ⟨hval.symm, by simp; omega⟩
    | some j =>
      have hjm := pickC_mem hp
      have hj := hF.next i x hr hx j hjm
      obtain ⟨n, rfl, _⟩ := next_ok hz hx hs hjm
      rw [Int.toNat_natCast] at hj
      have hin : i < n := by
        rcases Nat.lt_or_ge i n with h | h
        · exact h
        · exact absurd ⟨i, hil, x, hx, hr, n, hjm, by omega⟩ hnb
      obtain ⟨h1, h2⟩ := way_cost hz hnb hF hT f n hj.2 (by omega) (fun k m y hk hy => hns (k + 1) m y (by rw [wayG_go hx hp, Int.toNat_natCast, List.getElem?_cons_succ]; exact hk) hy)
      rw [wayG_go hx hp, Int.toNat_natCast, List.length_cons]
      have hVi : V i = 1 + V n := by
        rw [hval]
        have hsm : plusN 1 (V n) = 1 + V n := plusN_small (by unfold top; omega)
        cases hN : nextC i x with
        | nil => rw [hN] at hjm; cases hjm
        | cons a r =>
          cases r with
          | nil =>
            rw [hN] at hp
            have : a = (n : Int) := Option.some.inj hp
            subst this
            show plusN 1 (V (n : Int).toNat) = _
            rw [Int.toNat_natCast]
            exact hsm
          | cons b r =>
            rw [hN] at hp
            have hpe : (if V a.toNat < V b.toNat ∨ (V b.toNat = V a.toNat ∧ b < a) then b else a) = (n : Int) := Option.some.inj hp
            show plusN 1 (max (V a.toNat) (V b.toNat)) = _
            have : max (V a.toNat) (V b.toNat) = V n := by
              by_cases h : V a.toNat < V b.toNat ∨ (V b.toNat = V a.toNat ∧ b < a)
              · rw [if_pos h] at hpe
                subst hpe
                rw [Int.toNat_natCast] at *
                omega
              · rw [if_neg h] at hpe
                subst hpe
                rw [Int.toNat_natCast] at *
                omega
            rw [this]
            exact hsm
      exact ⟨by omega, by omega⟩
theorem next_nil {i : Nat} {x : In} (h : nextC i x = []) : x.op = 149 := by
  unfold nextC at h
  split at h
  · rename_i e; simpa using e
  · split at h
    · cases h
    · split at h
      · cases h
      · split at h <;> cases h



/-! ### CostWorst -/
set_option maxHeartbeats 4000000 in
set_option maxRecDepth 100000 in
theorem after_any (l : List In) (a : Option Addr) (c i : Nat) (x : In) (w : World) (h : Ins w (.slice a l.length c) l) (hok : InsOk l) (hx : l[i]? = some x) (hk : knownB x = true) :
    Calls Try.prog 11 #[.slice a l.length c, .int .i64 i] w fun e w' => ∃ ov, e = .returned ov ∧ Ints w' ov (nextC i x) ∧ Kept (fun _ => False) w w' ∧ ∀ g, ov.ownBlock = some g → w.heap.size ≤ g := by
  have HN := Lib.hid (rnext_any l a c i x w h hok hx)
  rw [nextR_eq (hok.at_ hx) hk] at HN
  clear h hok hx hk
  go_enter Try.func11, Try.ntmps11
  go_wp2_with fail
  refine HN.out.mono ?_
  rintro e w1 ⟨ov, rfl, hN, hk1, ho⟩
  go_wp2_with fail
  go_ret
  exact ⟨_, rfl, hN, hk1, ho⟩
def subAt (l : List In) (y : Int) : Bool := match l[y.toNat]? with
  | some x => subB x
  | none => false
theorem any_take {α : Type} (p : α → Bool) (L : List α) (i : Nat) (y : α) (hy : L[i]? = some y) : (L.take (i + 1)).any p = ((L.take i).any p || p y) := by
  rw [List.take_add_one, hy]
  simp [List.any_append]
set_option maxHeartbeats 16000000 in
set_option maxRecDepth 100000 in
theorem walk_worst (l : List In) (a : Option Addr) (c : Nat) (w : World) (h : Ins w (.slice a l.length c) l) (o0 : ∀ x ∈ l, InOk x) :
    Calls Try.prog 4 #[.slice a l.length c] w fun e w' => e = .returned (.bool true) ∧ Kept (fun _ => False) w w' := by
  have HKN := Lib.hid known24_any
  have HIN := Lib.hid (fun (W : World) (hk : Kept (fun _ => False) w W) => h.kept hk)
  by_cases h150 : 150 < l.length
  · have hd : decide ((150 : Int) < l.length) = true := decide_eq_true (by omega)
    have hd' : decide ((l.length : Int) > 150) = true := decide_eq_true (by omega)
    have hdn : decide (150 < l.length) = true := decide_eq_true h150
    clear h o0
    go_enter Try.func4, Try.ntmps4
    go_wp2_with fail
    refine (HKN.out w).mono ?_
    rintro e w1 ⟨rfl, hk1⟩
    go_wp2_with fail
    go_ret
    exact ⟨rfl, hk1⟩
  have hok : InsOk l := ⟨by omega, o0⟩
  have hlen := hok.len
  clear o0
  have hd : decide ((150 : Int) < l.length) = false := decide_eq_false (by omega)
  have hd' : decide ((l.length : Int) > 150) = false := decide_eq_false (by omega)
  have hdn : decide (150 < l.length) = false := decide_eq_false h150
  have HCW := Lib.hid (fun W hI => cWorst_any l a c W hI hok)
  have HCL := Lib.hid (fun W hI => cLongest_any l a c W hI hok (fun h => tells_of longR h))
  by_cases hc : costE l = 0
  case neg =>
    have hzd : (costE l != 0) = true := by simpa using hc
    have hzd' : (costE l == 0) = false := by simpa using hc
    have hee : (costE l == costE l) = true := beq_self_eq_true _
    have hen : (costE l != costE l) = false := by simp [bne]
    have HZ := Lib.hid hc
    clear hc h hok
    generalize costE l = r at *
    go_enter Try.func4, Try.ntmps4
    go_wp2_with fail
    refine (HKN.out w).mono ?_
    rintro e w1 ⟨rfl, hk1⟩
    go_wp2_with fail
    refine (HCW.out _ (HIN.out _ hk1)).mono ?_
    rintro e w2 ⟨⟨va, vn, vc, rfl, h1, h2⟩, hk2⟩
    obtain ⟨rfl, rfl, rfl⟩ := h2 HZ.out
    clear h1 h2
    have hK2 := hk1.trans hk2 (fun _ _ h => h)
    go_wp2_with fail
    refine (HCL.out _ (HIN.out _ hK2)).mono ?_
    rintro e w3 ⟨⟨n, rfl, h1, h2⟩, hk3⟩
    clear h1 h2
    go_wp2_with fail
    go_ret
    exact ⟨rfl, hK2.trans hk3 (fun _ _ h => h)⟩
  case pos =>
  obtain ⟨hz, hnb, hdp⟩ := costE_ok hc
  have hzz := (check_parts hz).1
  have HKO := Lib.hid (fun (n : Nat) (x : In) (hr : Rch l n) (hx : l[n]? = some x) => known_of hzz hx (rch_ok hz hr).2)
  have HLT := Lib.hid (fun (n : Nat) (hr : Rch l n) => (rch_ok hz hr).1)
  have HAF := Lib.hid (fun (n : Nat) (x : In) W hI hx hk => after_any l a c n x W hI hok hx hk)
  have HIS := Lib.hid (fun (n : Nat) (x : In) k W (hx : l[n]? = some x) => ris_any x k W (hok.at_ hx))
  have HI8 := Lib.hid (fun (n : Nat) (x : In) (hx : l[n]? = some x) hk => isR8 (hok.at_ hx) hk)
  have HI9 := Lib.hid (fun (n : Nat) (x : In) (hx : l[n]? = some x) hk => isR9 (hok.at_ hx) hk)
  have HUN := Lib.hid (fun (V W rk rk' : Nat → Nat) (h : Tells longR l V rk) (k : Tells longR l W rk') => tells_unique hz h k (rk 0 + 1) 0 (Nat.lt_succ_self _) .zero)
  have HST := Lib.hid (fun (V rk : Nat → Nat) hF => way_steps (V := V) (rk := rk) hz hF (rk 0 + 1) 0 .zero (Nat.lt_succ_self _))
  have HCO := Lib.hid (fun (V rk : Nat → Nat) hF hT hn => way_cost (V := V) (rk := rk) hz hnb hF hT (rk 0 + 1) 0 .zero (Nat.lt_succ_self _) hn)
  rw [hc] at HCW HCL
  clear hc hz hnb hdp hzz h hok
  go_enter Try.func4, Try.ntmps4
  go_wp2_with fail
  refine (HKN.out w).mono ?_
  rintro e w1 ⟨rfl, hk1⟩
  go_wp2_with fail
  refine (HCW.out _ (HIN.out _ hk1)).mono ?_
  rintro e w2 ⟨⟨va, vn, vc, rfl, h1, h2⟩, hk2⟩
  obtain ⟨V, rk, hT, hF, hW⟩ := h1 trivial
  have hK2 := hk1.trans hk2 (fun _ _ h => h)
  have hST := HST.out V rk hF
  have hCO := HCO.out V rk hF hT
  have hhd := way_head l V (rk 0 + 1) 0
  have hWI := Lib.hid hW
  generalize wayG l V (rk 0 + 1) 0 = W at *
  have hwn := Sl.len hW
  rw [List.length_map] at hwn
  subst hwn
  have HTT := Lib.hid hT
  have HSS := Lib.hid hST
  have HOO := Lib.hid hCO
  clear h1 h2 hT hF hW hST hCO HST HCO HCW HKN
  go_wp2_with fail
  refine (HCL.out _ (HIN.out _ hK2)).mono ?_
  rintro e w3 ⟨⟨n, rfl, h1, h2⟩, hk3⟩
  obtain ⟨V', rk', hT', rfl⟩ := h1 trivial
  have hvv : V' 0 = V 0 := (HUN.out V V' rk rk' HTT.out hT').symm
  rw [hvv]
  have hK3 := hK2.trans hk3 (fun _ _ h => h)
  have hW3 := Sl.kept hk3 hWI.out (fun _ _ h => h)
  have hvt := HTT.out.hi 0
  unfold top at hvt
  clear h1 h2 hT' hvv HUN HCL hWI hk2 hk3
  have hwpos : 0 < W.length := by
    cases W with
    | nil => cases hhd
    | cons => simp
  obtain ⟨wg, wcap, hwv, hwc, hwl⟩ := Sl.some_ hW3 (by rw [List.length_map]; exact hwpos)
  rw [List.length_map] at hwv
  cases hwv
  have hwmx : W.length ≤ 9223372036854775807 := by
    rcases hW3.2.2 with ⟨_, hn⟩ | ⟨_, _, _, _, _, _, hc1, hc2, _⟩
    · rw [List.length_map] at hn; omega
    · rw [List.length_map] at hc1
      unfold maxLen at hc2
      omega
  obtain ⟨m, hm⟩ : ∃ m, W.length = m + 1 := ⟨W.length - 1, by omega⟩
  clear hwc
  rw [hm] at hW3 hwmx ⊢
  have hw0 := Ints.cell hW3 hhd
  obtain ⟨z, hzl⟩ : ∃ z, W[m]? = some z := ⟨_, List.getElem?_eq_getElem (by omega)⟩
  obtain ⟨zn, rfl, hzs⟩ := HSS.out m z hzl
  obtain ⟨zx, hzx, hznil⟩ := hzs.last (by rw [List.getElem?_eq_none]; omega)
  have hzc := Ints.cell hW3 hzl
  have hz9 : isR zx 9 = true := by
    rw [HI9.out zn zx hzx (HKO.out zn zx hzs.rch hzx), next_nil hznil]; rfl
  have hIS9 := Lib.hid (fun W => HIS.out zn zx 9 W hzx)
  rw [hz9] at hIS9
  obtain ⟨lg, lo, rfl, hlg, c0, c1, c2, c3, c4⟩ := (HIN.out w3 hK3).at_ hzx
  have hznl := HLT.out zn hzs.rch
  have hl0 : (((m : Int) + 1) == 0) = false := beq_eq_false_iff_ne.2 (by omega)
  have HW3 := Lib.hid hW3
  have HK3 := Lib.hid hK3
  clear hW3 hK3 hk1 hzs hzx hznil hz9 hzl
  -- LOOP
  go_wp2_with fail
  refine (hIS9.out _).mono ?_
  rintro e w4 ⟨rfl, hk4⟩
  have HK4 := Lib.hid (HK3.out.trans hk4 (fun _ _ h => h))
  have HW4 := Lib.hid (Sl.kept hk4 HW3.out (fun _ _ h => h))
  clear hk4 hIS9 HK3 HW3 c0 c1 c2 c3 c4 hw0 hzc hlg hwl
  go_wp2_with fail
  go_loopw [7, 8] (fun cv iv wr => ∃ i : Nat, iv = .int .i64 i ∧ cv = .bool ((W.take i).any (subAt l)) ∧ i < (m + 1) ∧ Kept (fun _ => False) w wr ∧ Ints wr (.slice (some ⟨wg, 0, none⟩) (m + 1) vc) W) (fun _ iv _ => (m + 1) - (intOf iv).toNat)
  case atStart => exact ⟨0, rfl, rfl, by omega, HK4.out, HW4.out⟩
  case round =>
    clear HK4 HW4
    obtain ⟨i, rfl, rfl, hi, hK, hWW⟩ := hrel
    obtain ⟨y, hy⟩ : ∃ y, W[i]? = some y := ⟨_, List.getElem?_eq_getElem (by omega)⟩
    obtain ⟨yn, rfl, hst⟩ := HSS.out i y hy
    have hynl := HLT.out yn hst.rch
    obtain ⟨yx, hyxx⟩ : ∃ x, l[yn]? = some x := ⟨_, List.getElem?_eq_getElem hynl⟩
    have hyc := Ints.cell hWW hy
    have hwgl := Sl.lt hWW wg rfl
    have hys := Lib.hid hst
    have hyx := Lib.hid hyxx
    have HTK := Lib.hid (any_take (subAt l) W i (yn : Int) hy)
    have hsa : subAt l (yn : Int) = subB yx := by unfold subAt; rw [Int.toNat_natCast, hyxx]
    rw [hsa] at HTK
    have HI := Lib.hid (fun Wd => HIS.out yn yx 8 Wd hyxx)
    rw [HI8.out yn yx hyxx (HKO.out yn yx hst.rch hyxx)] at HI
    obtain ⟨g2, o2, hv2, hg2, d0, d1, d2, d3, d4⟩ := (HIN.out wr hK).at_ hyxx
    cases hv2
    have hdi : decide ((i : Int) < (m : Int) + 1) = true := decide_eq_true (by omega)
    have hdi2 : decide (i < m + 1) = true := decide_eq_true (by omega)
    have HWW := Lib.hid hWW
    have HK := Lib.hid hK
    have hK0 := hK
    clear hst hyxx hsa hy hWW hK
    cases hcb : (W.take i).any (subAt l)
    case true =>
      have HNB : Hid ((W.take (i + 1)).any (subAt l) = true) := Lib.hid (by rw [HTK.out, hcb]; rfl)
      clear hcb HI HTK hK0
      by_cases hlast : i + 1 = (m + 1)
      · have hdl : (((i : Int) + 1) == ((m : Int) + 1)) = true := beq_iff_eq.2 (by omega)
        have hdl2 : ((i : Int) == (m : Int)) = true := beq_iff_eq.2 (by omega)
        have hdl3 : (i == m) = true := beq_iff_eq.2 (by omega)
        go_wp2_with fail
        go_ret
        exact ⟨rfl, HK.out⟩
      · have hdl : (((i : Int) + 1) == ((m : Int) + 1)) = false := beq_eq_false_iff_ne.2 (by omega)
        have hdl2 : ((i : Int) == (m : Int)) = false := beq_eq_false_iff_ne.2 (by omega)
        have hdl3 : (i == m) = false := beq_eq_false_iff_ne.2 (by omega)
        obtain ⟨wz, hwz⟩ : ∃ z, W[i + 1]? = some z := ⟨_, List.getElem?_eq_getElem (by omega)⟩
        obtain ⟨x', hx', hzm⟩ := hys.out.more wz hwz
        rw [hyx.out] at hx'
        cases hx'
        have HZM := Lib.hid hzm
        have HAA := Lib.hid (fun Wd hk => HAF.out yn yx Wd (HIN.out Wd hk) hyx.out (HKO.out yn yx hys.out.rch hyx.out))
        have HWZ := Lib.hid hwz
        clear hzm hwz
        go_wp2_with fail
        refine (HAA.out _ HK.out).mono ?_
        rintro e w6 ⟨ov, rfl, hN, hk6, ho6⟩
        have HK6 := Lib.hid (HK.out.trans hk6 (fun _ _ h => h))
        have HW6 := Lib.hid (Sl.kept hk6 HWW.out (fun _ _ h => h))
        obtain ⟨na, nc, rfl⟩ := Sl.any hN
        rw [List.length_map] at hN ho6 ⊢
        have HN6 := Lib.hid hN
        have hnl := next_len yn yx
        clear hN hk6 ho6 HAA HWW HK hyc
        generalize nextC yn yx = N at *
        go_wp2_with fail
        go_loopw [10, 11] (fun mv jv wr => ∃ j : Nat, jv = .int .i64 j ∧ mv = .bool ((N.take j).any (fun z => z == wz)) ∧ j ≤ N.length ∧ Kept (fun _ => False) w wr ∧ Ints wr (.slice (some ⟨wg, 0, none⟩) (m + 1) vc) W ∧ Ints wr (.slice na N.length nc) N) (fun _ jv _ => N.length - (intOf jv).toNat)
        case atStart => exact ⟨0, rfl, rfl, by omega, HK6.out, HW6.out, HN6.out⟩
        case round =>
          clear HK6 HW6 HN6
          obtain ⟨j, rfl, rfl, hj, hK7, hW7, hN7⟩ := hrel
          have HK7 := Lib.hid hK7
          have HW7 := Lib.hid hW7
          have HN7 := Lib.hid hN7
          by_cases hjl : j < N.length
          case neg =>
            obtain rfl : j = N.length := by omega
            have hdj : decide ((N.length : Int) < N.length) = false := decide_eq_false (by omega)
            have hany : (N.take N.length).any (fun z => z == wz) = true := by
              rw [List.take_length, List.any_eq_true]
              exact ⟨wz, HZM.out, by simp⟩
            rw [hany]
            clear hany hK7 hW7 hN7
            go_wp2_with fail
            go_roundw
            case rel => exact ⟨i + 1, by simp, by rw [HNB.out], by omega, HK7.out, HW7.out⟩
            case measure => (simp [intOf]; omega)
          case pos =>
            have hdj : decide ((j : Int) < N.length) = true := decide_eq_true (by omega)
            obtain ⟨z, hz⟩ : ∃ z, N[j]? = some z := ⟨_, List.getElem?_eq_getElem hjl⟩
            have HNX := Lib.hid (any_take (fun z => z == wz) N j z hz)
            obtain ⟨sg, scap, hsv, hsc, hsgl⟩ := Sl.some_ hN7 (by rw [List.length_map]; omega)
            rw [List.length_map] at hsv
            cases hsv
            have hzc := Ints.cell hN7 hz
            have hwc2 := Ints.cell hW7 HWZ.out
            have hwgl := Sl.lt hW7 wg rfl
            clear hK7 hW7 hN7 hz hsc
            cases hcm : (N.take j).any (fun z => z == wz)
            case true =>
              rw [hcm] at HNX
              clear hcm
              go_wp2_with fail
              refine wp_region_mix0 [.w, .w, .w, .w, .w, .l, .w, .w, .w, .w, .l, .w, .w, .w] (by kernel_rfl) (by kernel_rfl) ?_
              repeat (first
                | (refine mix_w1 ?_; go_big_quiet_step (fail); refine wpQuiet_nil ?_)
                | (refine mix_l1 rfl ?_; go_big_quiet_step (fail); refine wpQuiet_nil ?_))
              refine mix_done ?_
              go_wp2_with fail
              go_roundw
              case rel => exact ⟨j + 1, by simp, by rw [HNX.out]; rfl, by omega, HK7.out.drew, HW7.out.drew, HN7.out.drew⟩
              case measure => (simp [intOf]; omega)
            case false =>
              rw [hcm] at HNX
              clear hcm
              go_wp2_with fail
              refine wp_region_mix0 [.w, .w, .w, .w, .w, .l, .w, .w, .w, .w, .l, .w, .w, .w] (by kernel_rfl) (by kernel_rfl) ?_
              repeat (refine mix_w1 ?_; go_big_quiet_step (fail); refine wpQuiet_nil ?_)
              refine mix_loadG rfl (by simp [Region.wanted, yielded]) 3 (.tmp 106) rfl (fun w => by kernel_rfl) ⟨sg, j, none⟩ (.int .i64 z) rfl (fun w' hw' => by rw [hw']; exact hzc) ?_
              simp only [Act.put, List.setIfInBounds_toArray, List.set_cons_succ, List.set_cons_zero]
              repeat (refine mix_w1 ?_; go_big_quiet_step (fail); refine wpQuiet_nil ?_)
              refine mix_loadG rfl (by simp [Region.wanted, yielded]) 3 (.tmp 111) rfl (fun w => by kernel_rfl) ⟨wg, i + 1, none⟩ (.int .i64 wz) rfl (fun w' hw' => by rw [hw']; exact hwc2) ?_
              simp only [Act.put, List.setIfInBounds_toArray, List.set_cons_succ, List.set_cons_zero]
              repeat (refine mix_w1 ?_; go_big_quiet_step (fail); refine wpQuiet_nil ?_)
              refine mix_done ?_
              go_wp2_with fail
              go_roundw
              case rel => exact ⟨j + 1, by simp, by rw [HNX.out]; simp, by omega, HK7.out.drew, HW7.out.drew, HN7.out.drew⟩
              case measure => (simp [intOf]; omega)
    case false =>
    cases q8 : (yx.op == 133)
    case false =>
      have HNB : Hid ((W.take (i + 1)).any (subAt l) = false) := Lib.hid (by rw [HTK.out, hcb]; unfold subB; rw [q8]; rfl)
      rw [q8] at HI
      clear hcb HTK hK0 q8
      go_wp2_with fail
      refine (HI.out _).mono ?_
      rintro e w5 ⟨rfl, hk5⟩
      replace HWW := Lib.hid (Sl.kept hk5 HWW.out (fun _ _ h => h))
      replace HK := Lib.hid (HK.out.trans hk5 (fun _ _ h => h))
      replace hyc := (hk5.cell (p := ⟨wg, i, none⟩) hwgl id).trans hyc
      replace hwgl := Nat.lt_of_lt_of_le hwgl hk5.size
      clear hk5 HI d0 d1 d2 d3 d4 hg2
      by_cases hlast : i + 1 = (m + 1)
      · have hdl : (((i : Int) + 1) == ((m : Int) + 1)) = true := beq_iff_eq.2 (by omega)
        have hdl2 : ((i : Int) == (m : Int)) = true := beq_iff_eq.2 (by omega)
        have hdl3 : (i == m) = true := beq_iff_eq.2 (by omega)
        have hall : W.any (subAt l) = false := by have := HNB.out; rwa [hlast, ← hm, List.take_length] at this
        have hcost := HOO.out (fun k n x hk hx => by
          have hm := List.mem_of_getElem? hk
          have := (List.any_eq_false.1 hall) _ hm
          unfold subAt at this
          rw [Int.toNat_natCast, hx] at this
          simpa using this)
        have hvl : V 0 = m + 1 := by omega
        have heq3 : (((m : Int) + 1) == ((m : Int) + 1)) = true := beq_self_eq_true _
        clear hall hcost
        rw [hvl]
        go_wp2_with fail
        go_ret
        exact ⟨rfl, HK.out⟩
      · have hdl : (((i : Int) + 1) == ((m : Int) + 1)) = false := beq_eq_false_iff_ne.2 (by omega)
        have hdl2 : ((i : Int) == (m : Int)) = false := beq_eq_false_iff_ne.2 (by omega)
        have hdl3 : (i == m) = false := beq_eq_false_iff_ne.2 (by omega)
        obtain ⟨wz, hwz⟩ : ∃ z, W[i + 1]? = some z := ⟨_, List.getElem?_eq_getElem (by omega)⟩
        obtain ⟨x', hx', hzm⟩ := hys.out.more wz hwz
        rw [hyx.out] at hx'
        cases hx'
        have HZM := Lib.hid hzm
        have HAA := Lib.hid (fun Wd hk => HAF.out yn yx Wd (HIN.out Wd hk) hyx.out (HKO.out yn yx hys.out.rch hyx.out))
        have HWZ := Lib.hid hwz
        clear hzm hwz
        go_wp2_with fail
        refine (HAA.out _ HK.out).mono ?_
        rintro e w6 ⟨ov, rfl, hN, hk6, ho6⟩
        have HK6 := Lib.hid (HK.out.trans hk6 (fun _ _ h => h))
        have HW6 := Lib.hid (Sl.kept hk6 HWW.out (fun _ _ h => h))
        obtain ⟨na, nc, rfl⟩ := Sl.any hN
        rw [List.length_map] at hN ho6 ⊢
        have HN6 := Lib.hid hN
        have hnl := next_len yn yx
        clear hN hk6 ho6 HAA HWW HK hyc
        generalize nextC yn yx = N at *
        go_wp2_with fail
        go_loopw [10, 11] (fun mv jv wr => ∃ j : Nat, jv = .int .i64 j ∧ mv = .bool ((N.take j).any (fun z => z == wz)) ∧ j ≤ N.length ∧ Kept (fun _ => False) w wr ∧ Ints wr (.slice (some ⟨wg, 0, none⟩) (m + 1) vc) W ∧ Ints wr (.slice na N.length nc) N) (fun _ jv _ => N.length - (intOf jv).toNat)
        case atStart => exact ⟨0, rfl, rfl, by omega, HK6.out, HW6.out, HN6.out⟩
        case round =>
          clear HK6 HW6 HN6
          obtain ⟨j, rfl, rfl, hj, hK7, hW7, hN7⟩ := hrel
          have HK7 := Lib.hid hK7
          have HW7 := Lib.hid hW7
          have HN7 := Lib.hid hN7
          by_cases hjl : j < N.length
          case neg =>
            obtain rfl : j = N.length := by omega
            have hdj : decide ((N.length : Int) < N.length) = false := decide_eq_false (by omega)
            have hany : (N.take N.length).any (fun z => z == wz) = true := by
              rw [List.take_length, List.any_eq_true]
              exact ⟨wz, HZM.out, by simp⟩
            rw [hany]
            clear hany hK7 hW7 hN7
            go_wp2_with fail
            go_roundw
            case rel => exact ⟨i + 1, by simp, by rw [HNB.out], by omega, HK7.out, HW7.out⟩
            case measure => (simp [intOf]; omega)
          case pos =>
            have hdj : decide ((j : Int) < N.length) = true := decide_eq_true (by omega)
            obtain ⟨z, hz⟩ : ∃ z, N[j]? = some z := ⟨_, List.getElem?_eq_getElem hjl⟩
            have HNX := Lib.hid (any_take (fun z => z == wz) N j z hz)
            obtain ⟨sg, scap, hsv, hsc, hsgl⟩ := Sl.some_ hN7 (by rw [List.length_map]; omega)
            rw [List.length_map] at hsv
            cases hsv
            have hzc := Ints.cell hN7 hz
            have hwc2 := Ints.cell hW7 HWZ.out
            have hwgl := Sl.lt hW7 wg rfl
            clear hK7 hW7 hN7 hz hsc
            cases hcm : (N.take j).any (fun z => z == wz)
            case true =>
              rw [hcm] at HNX
              clear hcm
              go_wp2_with fail
              refine wp_region_mix0 [.w, .w, .w, .w, .w, .l, .w, .w, .w, .w, .l, .w, .w, .w] (by kernel_rfl) (by kernel_rfl) ?_
              repeat (first
                | (refine mix_w1 ?_; go_big_quiet_step (fail); refine wpQuiet_nil ?_)
                | (refine mix_l1 rfl ?_; go_big_quiet_step (fail); refine wpQuiet_nil ?_))
              refine mix_done ?_
              go_wp2_with fail
              go_roundw
              case rel => exact ⟨j + 1, by simp, by rw [HNX.out]; rfl, by omega, HK7.out.drew, HW7.out.drew, HN7.out.drew⟩
              case measure => (simp [intOf]; omega)
            case false =>
              rw [hcm] at HNX
              clear hcm
              go_wp2_with fail
              refine wp_region_mix0 [.w, .w, .w, .w, .w, .l, .w, .w, .w, .w, .l, .w, .w, .w] (by kernel_rfl) (by kernel_rfl) ?_
              repeat (refine mix_w1 ?_; go_big_quiet_step (fail); refine wpQuiet_nil ?_)
              refine mix_loadG rfl (by simp [Region.wanted, yielded]) 3 (.tmp 106) rfl (fun w => by kernel_rfl) ⟨sg, j, none⟩ (.int .i64 z) rfl (fun w' hw' => by rw [hw']; exact hzc) ?_
              simp only [Act.put, List.setIfInBounds_toArray, List.set_cons_succ, List.set_cons_zero]
              repeat (refine mix_w1 ?_; go_big_quiet_step (fail); refine wpQuiet_nil ?_)
              refine mix_loadG rfl (by simp [Region.wanted, yielded]) 3 (.tmp 111) rfl (fun w => by kernel_rfl) ⟨wg, i + 1, none⟩ (.int .i64 wz) rfl (fun w' hw' => by rw [hw']; exact hwc2) ?_
              simp only [Act.put, List.setIfInBounds_toArray, List.set_cons_succ, List.set_cons_zero]
              repeat (refine mix_w1 ?_; go_big_quiet_step (fail); refine wpQuiet_nil ?_)
              refine mix_done ?_
              go_wp2_with fail
              go_roundw
              case rel => exact ⟨j + 1, by simp, by rw [HNX.out]; simp, by omega, HK7.out.drew, HW7.out.drew, HN7.out.drew⟩
              case measure => (simp [intOf]; omega)
    case true =>
    rw [q8] at HI
    cases q1 : (yx.src == 1)
    case false =>
      have HNB : Hid ((W.take (i + 1)).any (subAt l) = false) := Lib.hid (by rw [HTK.out, hcb]; unfold subB; rw [q8, q1]; rfl)
      clear hcb HTK hK0 q8
      go_wp2_with fail
      refine (HI.out _).mono ?_
      rintro e w5 ⟨rfl, hk5⟩
      have d2' := (hk5.cell hg2 id).trans d2
      have hg2' := Nat.lt_of_lt_of_le hg2 hk5.size
      replace HWW := Lib.hid (Sl.kept hk5 HWW.out (fun _ _ h => h))
      replace HK := Lib.hid (HK.out.trans hk5 (fun _ _ h => h))
      replace hyc := (hk5.cell (p := ⟨wg, i, none⟩) hwgl id).trans hyc
      replace hwgl := Nat.lt_of_lt_of_le hwgl hk5.size
      clear hk5 HI d0 d1 d2 d3 d4 hg2
      by_cases hlast : i + 1 = (m + 1)
      · have hdl : (((i : Int) + 1) == ((m : Int) + 1)) = true := beq_iff_eq.2 (by omega)
        have hdl2 : ((i : Int) == (m : Int)) = true := beq_iff_eq.2 (by omega)
        have hdl3 : (i == m) = true := beq_iff_eq.2 (by omega)
        have hall : W.any (subAt l) = false := by have := HNB.out; rwa [hlast, ← hm, List.take_length] at this
        have hcost := HOO.out (fun k n x hk hx => by
          have hm := List.mem_of_getElem? hk
          have := (List.any_eq_false.1 hall) _ hm
          unfold subAt at this
          rw [Int.toNat_natCast, hx] at this
          simpa using this)
        have hvl : V 0 = m + 1 := by omega
        have heq3 : (((m : Int) + 1) == ((m : Int) + 1)) = true := beq_self_eq_true _
        clear hall hcost
        rw [hvl]
        go_wp2_with fail
        go_ret
        exact ⟨rfl, HK.out⟩
      · have hdl : (((i : Int) + 1) == ((m : Int) + 1)) = false := beq_eq_false_iff_ne.2 (by omega)
        have hdl2 : ((i : Int) == (m : Int)) = false := beq_eq_false_iff_ne.2 (by omega)
        have hdl3 : (i == m) = false := beq_eq_false_iff_ne.2 (by omega)
        obtain ⟨wz, hwz⟩ : ∃ z, W[i + 1]? = some z := ⟨_, List.getElem?_eq_getElem (by omega)⟩
        obtain ⟨x', hx', hzm⟩ := hys.out.more wz hwz
        rw [hyx.out] at hx'
        cases hx'
        have HZM := Lib.hid hzm
        have HAA := Lib.hid (fun Wd hk => HAF.out yn yx Wd (HIN.out Wd hk) hyx.out (HKO.out yn yx hys.out.rch hyx.out))
        have HWZ := Lib.hid hwz
        clear hzm hwz
        go_wp2_with fail
        refine (HAA.out _ HK.out).mono ?_
        rintro e w6 ⟨ov, rfl, hN, hk6, ho6⟩
        have HK6 := Lib.hid (HK.out.trans hk6 (fun _ _ h => h))
        have HW6 := Lib.hid (Sl.kept hk6 HWW.out (fun _ _ h => h))
        obtain ⟨na, nc, rfl⟩ := Sl.any hN
        rw [List.length_map] at hN ho6 ⊢
        have HN6 := Lib.hid hN
        have hnl := next_len yn yx
        clear hN hk6 ho6 HAA HWW HK hyc
        generalize nextC yn yx = N at *
        go_wp2_with fail
        go_loopw [10, 11] (fun mv jv wr => ∃ j : Nat, jv = .int .i64 j ∧ mv = .bool ((N.take j).any (fun z => z == wz)) ∧ j ≤ N.length ∧ Kept (fun _ => False) w wr ∧ Ints wr (.slice (some ⟨wg, 0, none⟩) (m + 1) vc) W ∧ Ints wr (.slice na N.length nc) N) (fun _ jv _ => N.length - (intOf jv).toNat)
        case atStart => exact ⟨0, rfl, rfl, by omega, HK6.out, HW6.out, HN6.out⟩
        case round =>
          clear HK6 HW6 HN6
          obtain ⟨j, rfl, rfl, hj, hK7, hW7, hN7⟩ := hrel
          have HK7 := Lib.hid hK7
          have HW7 := Lib.hid hW7
          have HN7 := Lib.hid hN7
          by_cases hjl : j < N.length
          case neg =>
            obtain rfl : j = N.length := by omega
            have hdj : decide ((N.length : Int) < N.length) = false := decide_eq_false (by omega)
            have hany : (N.take N.length).any (fun z => z == wz) = true := by
              rw [List.take_length, List.any_eq_true]
              exact ⟨wz, HZM.out, by simp⟩
            rw [hany]
            clear hany hK7 hW7 hN7
            go_wp2_with fail
            go_roundw
            case rel => exact ⟨i + 1, by simp, by rw [HNB.out], by omega, HK7.out, HW7.out⟩
            case measure => (simp [intOf]; omega)
          case pos =>
            have hdj : decide ((j : Int) < N.length) = true := decide_eq_true (by omega)
            obtain ⟨z, hz⟩ : ∃ z, N[j]? = some z := ⟨_, List.getElem?_eq_getElem hjl⟩
            have HNX := Lib.hid (any_take (fun z => z == wz) N j z hz)
            obtain ⟨sg, scap, hsv, hsc, hsgl⟩ := Sl.some_ hN7 (by rw [List.length_map]; omega)
            rw [List.length_map] at hsv
            cases hsv
            have hzc := Ints.cell hN7 hz
            have hwc2 := Ints.cell hW7 HWZ.out
            have hwgl := Sl.lt hW7 wg rfl
            clear hK7 hW7 hN7 hz hsc
            cases hcm : (N.take j).any (fun z => z == wz)
            case true =>
              rw [hcm] at HNX
              clear hcm
              go_wp2_with fail
              refine wp_region_mix0 [.w, .w, .w, .w, .w, .l, .w, .w, .w, .w, .l, .w, .w, .w] (by kernel_rfl) (by kernel_rfl) ?_
              repeat (first
                | (refine mix_w1 ?_; go_big_quiet_step (fail); refine wpQuiet_nil ?_)
                | (refine mix_l1 rfl ?_; go_big_quiet_step (fail); refine wpQuiet_nil ?_))
              refine mix_done ?_
              go_wp2_with fail
              go_roundw
              case rel => exact ⟨j + 1, by simp, by rw [HNX.out]; rfl, by omega, HK7.out.drew, HW7.out.drew, HN7.out.drew⟩
              case measure => (simp [intOf]; omega)
            case false =>
              rw [hcm] at HNX
              clear hcm
              go_wp2_with fail
              refine wp_region_mix0 [.w, .w, .w, .w, .w, .l, .w, .w, .w, .w, .l, .w, .w, .w] (by kernel_rfl) (by kernel_rfl) ?_
              repeat (refine mix_w1 ?_; go_big_quiet_step (fail); refine wpQuiet_nil ?_)
              refine mix_loadG rfl (by simp [Region.wanted, yielded]) 3 (.tmp 106) rfl (fun w => by kernel_rfl) ⟨sg, j, none⟩ (.int .i64 z) rfl (fun w' hw' => by rw [hw']; exact hzc) ?_
              simp only [Act.put, List.setIfInBounds_toArray, List.set_cons_succ, List.set_cons_zero]
              repeat (refine mix_w1 ?_; go_big_quiet_step (fail); refine wpQuiet_nil ?_)
              refine mix_loadG rfl (by simp [Region.wanted, yielded]) 3 (.tmp 111) rfl (fun w => by kernel_rfl) ⟨wg, i + 1, none⟩ (.int .i64 wz) rfl (fun w' hw' => by rw [hw']; exact hwc2) ?_
              simp only [Act.put, List.setIfInBounds_toArray, List.set_cons_succ, List.set_cons_zero]
              repeat (refine mix_w1 ?_; go_big_quiet_step (fail); refine wpQuiet_nil ?_)
              refine mix_done ?_
              go_wp2_with fail
              go_roundw
              case rel => exact ⟨j + 1, by simp, by rw [HNX.out]; simp, by omega, HK7.out.drew, HW7.out.drew, HN7.out.drew⟩
              case measure => (simp [intOf]; omega)
    case true =>
      have HNB : Hid ((W.take (i + 1)).any (subAt l) = true) := Lib.hid (by rw [HTK.out, hcb]; unfold subB; rw [q8, q1]; rfl)
      clear hcb HTK hK0 q8
      go_wp2_with fail
      refine (HI.out _).mono ?_
      rintro e w5 ⟨rfl, hk5⟩
      have d2' := (hk5.cell hg2 id).trans d2
      have hg2' := Nat.lt_of_lt_of_le hg2 hk5.size
      replace HWW := Lib.hid (Sl.kept hk5 HWW.out (fun _ _ h => h))
      replace HK := Lib.hid (HK.out.trans hk5 (fun _ _ h => h))
      replace hyc := (hk5.cell (p := ⟨wg, i, none⟩) hwgl id).trans hyc
      replace hwgl := Nat.lt_of_lt_of_le hwgl hk5.size
      clear hk5 HI d0 d1 d2 d3 d4 hg2
      by_cases hlast : i + 1 = (m + 1)
      · have hdl : (((i : Int) + 1) == ((m : Int) + 1)) = true := beq_iff_eq.2 (by omega)
        have hdl2 : ((i : Int) == (m : Int)) = true := beq_iff_eq.2 (by omega)
        have hdl3 : (i == m) = true := beq_iff_eq.2 (by omega)
        go_wp2_with fail
        go_ret
        exact ⟨rfl, HK.out⟩
      · have hdl : (((i : Int) + 1) == ((m : Int) + 1)) = false := beq_eq_false_iff_ne.2 (by omega)
        have hdl2 : ((i : Int) == (m : Int)) = false := beq_eq_false_iff_ne.2 (by omega)
        have hdl3 : (i == m) = false := beq_eq_false_iff_ne.2 (by omega)
        obtain ⟨wz, hwz⟩ : ∃ z, W[i + 1]? = some z := ⟨_, List.getElem?_eq_getElem (by omega)⟩
        obtain ⟨x', hx', hzm⟩ := hys.out.more wz hwz
        rw [hyx.out] at hx'
        cases hx'
        have HZM := Lib.hid hzm
        have HAA := Lib.hid (fun Wd hk => HAF.out yn yx Wd (HIN.out Wd hk) hyx.out (HKO.out yn yx hys.out.rch hyx.out))
        have HWZ := Lib.hid hwz
        clear hzm hwz
        go_wp2_with fail
        refine (HAA.out _ HK.out).mono ?_
        rintro e w6 ⟨ov, rfl, hN, hk6, ho6⟩
        have HK6 := Lib.hid (HK.out.trans hk6 (fun _ _ h => h))
        have HW6 := Lib.hid (Sl.kept hk6 HWW.out (fun _ _ h => h))
        obtain ⟨na, nc, rfl⟩ := Sl.any hN
        rw [List.length_map] at hN ho6 ⊢
        have HN6 := Lib.hid hN
        have hnl := next_len yn yx
        clear hN hk6 ho6 HAA HWW HK hyc
        generalize nextC yn yx = N at *
        go_wp2_with fail
        go_loopw [10, 11] (fun mv jv wr => ∃ j : Nat, jv = .int .i64 j ∧ mv = .bool ((N.take j).any (fun z => z == wz)) ∧ j ≤ N.length ∧ Kept (fun _ => False) w wr ∧ Ints wr (.slice (some ⟨wg, 0, none⟩) (m + 1) vc) W ∧ Ints wr (.slice na N.length nc) N) (fun _ jv _ => N.length - (intOf jv).toNat)
        case atStart => exact ⟨0, rfl, rfl, by omega, HK6.out, HW6.out, HN6.out⟩
        case round =>
          clear HK6 HW6 HN6
          obtain ⟨j, rfl, rfl, hj, hK7, hW7, hN7⟩ := hrel
          have HK7 := Lib.hid hK7
          have HW7 := Lib.hid hW7
          have HN7 := Lib.hid hN7
          by_cases hjl : j < N.length
          case neg =>
            obtain rfl : j = N.length := by omega
            have hdj : decide ((N.length : Int) < N.length) = false := decide_eq_false (by omega)
            have hany : (N.take N.length).any (fun z => z == wz) = true := by
              rw [List.take_length, List.any_eq_true]
              exact ⟨wz, HZM.out, by simp⟩
            rw [hany]
            clear hany hK7 hW7 hN7
            go_wp2_with fail
            go_roundw
            case rel => exact ⟨i + 1, by simp, by rw [HNB.out], by omega, HK7.out, HW7.out⟩
            case measure => (simp [intOf]; omega)
          case pos =>
            have hdj : decide ((j : Int) < N.length) = true := decide_eq_true (by omega)
            obtain ⟨z, hz⟩ : ∃ z, N[j]? = some z := ⟨_, List.getElem?_eq_getElem hjl⟩
            have HNX := Lib.hid (any_take (fun z => z == wz) N j z hz)
            obtain ⟨sg, scap, hsv, hsc, hsgl⟩ := Sl.some_ hN7 (by rw [List.length_map]; omega)
            rw [List.length_map] at hsv
            cases hsv
            have hzc := Ints.cell hN7 hz
            have hwc2 := Ints.cell hW7 HWZ.out
            have hwgl := Sl.lt hW7 wg rfl
            clear hK7 hW7 hN7 hz hsc
            cases hcm : (N.take j).any (fun z => z == wz)
            case true =>
              rw [hcm] at HNX
              clear hcm
              go_wp2_with fail
              refine wp_region_mix0 [.w, .w, .w, .w, .w, .l, .w, .w, .w, .w, .l, .w, .w, .w] (by kernel_rfl) (by kernel_rfl) ?_
              repeat (first
                | (refine mix_w1 ?_; go_big_quiet_step (fail); refine wpQuiet_nil ?_)
                | (refine mix_l1 rfl ?_; go_big_quiet_step (fail); refine wpQuiet_nil ?_))
              refine mix_done ?_
              go_wp2_with fail
              go_roundw
              case rel => exact ⟨j + 1, by simp, by rw [HNX.out]; rfl, by omega, HK7.out.drew, HW7.out.drew, HN7.out.drew⟩
              case measure => (simp [intOf]; omega)
            case false =>
              rw [hcm] at HNX
              clear hcm
              go_wp2_with fail
              refine wp_region_mix0 [.w, .w, .w, .w, .w, .l, .w, .w, .w, .w, .l, .w, .w, .w] (by kernel_rfl) (by kernel_rfl) ?_
              repeat (refine mix_w1 ?_; go_big_quiet_step (fail); refine wpQuiet_nil ?_)
              refine mix_loadG rfl (by simp [Region.wanted, yielded]) 3 (.tmp 106) rfl (fun w => by kernel_rfl) ⟨sg, j, none⟩ (.int .i64 z) rfl (fun w' hw' => by rw [hw']; exact hzc) ?_
              simp only [Act.put, List.setIfInBounds_toArray, List.set_cons_succ, List.set_cons_zero]
              repeat (refine mix_w1 ?_; go_big_quiet_step (fail); refine wpQuiet_nil ?_)
              refine mix_loadG rfl (by simp [Region.wanted, yielded]) 3 (.tmp 111) rfl (fun w => by kernel_rfl) ⟨wg, i + 1, none⟩ (.int .i64 wz) rfl (fun w' hw' => by rw [hw']; exact hwc2) ?_
              simp only [Act.put, List.setIfInBounds_toArray, List.set_cons_succ, List.set_cons_zero]
              repeat (refine mix_w1 ?_; go_big_quiet_step (fail); refine wpQuiet_nil ?_)
              refine mix_done ?_
              go_wp2_with fail
              go_roundw
              case rel => exact ⟨j + 1, by simp, by rw [HNX.out]; simp, by omega, HK7.out.drew, HW7.out.drew, HN7.out.drew⟩
              case measure => (simp [intOf]; omega)

end Go.Proofs.Ytlkgmcacbfoijaa

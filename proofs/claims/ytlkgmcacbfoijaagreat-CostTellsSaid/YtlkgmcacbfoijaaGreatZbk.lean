import Derived.Test.YtlkgmcacbfoijaaGreatGcx
import Derived.Test.YtlkgmcacbfoijaaGreatGex
import Derived.Test.YtlkgmcacbfoijaaGreatMix
import Derived.Test.YtlkgmcacbfoijaaGreatGgx
set_option linter.unusedSimpArgs false
set_option linter.unusedVariables false
namespace Go.Proofs.YtlkgmcacbfoijaaGreat
open Go.RowKit

/-! ### the document's Depth -/
theorem rxK_take {k i : Nat} {js : List Int} {j : Int} (hj : js[i]? = some j) (s : DS) : rxK k (js.take (i + 1)) s = rx1 k (rxK k (js.take i) s) j := by
  unfold rxK
  rw [List.take_add_one, hj, List.foldl_append]
  rfl
theorem mxL_take {k : Nat} {D : List Int} {d : Int} (hd : D[k]? = some d) : mxL (D.take (k + 1)) = max (mxL (D.take k)) d := by
  unfold mxL
  rw [List.take_add_one, hd, List.foldl_append]
  rfl
theorem mxL_nonneg (D : List Int) : 0 ≤ mxL D := (mx_le D 0).1
theorem mxL_bound {D : List Int} {B : Int} (h : ∀ x ∈ D, x ≤ B) (hB : 0 ≤ B) : mxL D ≤ B := by
  rcases mx_is D 0 with e | ⟨x, hx, e⟩
  · unfold mxL; omega
  · have := h x hx
    unfold mxL; omega
theorem rx1_len (k : Nat) (s : DS) (j : Int) : (rx1 k s j).1.length = s.1.length := by
  unfold rx1
  split <;> simp
theorem rxK_len (k : Nat) : ∀ (js : List Int) (s : DS), (rxK k js s).1.length = s.1.length
  | [], _ => rfl
  | j :: js, s => by rw [rxK_cons, rxK_len k js, rx1_len]
theorem rxR_len (L : List (List Int)) : ∀ (m : Nat) (s : DS), (rxR L m s).1.length = s.1.length
  | 0, _ => rfl
  | m + 1, s => by rw [rxR_succ, rxK_len, rxR_len L m]
theorem depthE_ok {l : List In} (hz : checkI l = 0) : (DepthOK (callsL l) → depthE l = 0) ∧ (¬ DepthOK (callsL l) → depthE l = 151) := by
  have h := dp_ok (calls_in hz)
  unfold depthE
  rw [if_pos hz]
  constructor
  · intro hd
    obtain ⟨h1, h2⟩ := h.2 hd
    rw [if_neg]
    simp [h1]; omega
  · intro hd
    rw [if_pos]
    cases h1 : (dpT (callsL l) (callsL l).length).1.2 with
    | true => rfl
    | false =>
      rw [Bool.false_or]
      refine decide_eq_true (Int.lt_of_not_ge fun h2 => hd (h.1 ⟨h1, h2⟩))
set_option maxHeartbeats 16000000 in
set_option maxRecDepth 100000 in
theorem rDepth_any (l : List In) (a : Option Addr) (c : Nat) (w : World) (h : Ins w (.slice a l.length c) l) (hok : InsOk l) :
    Calls Tryz.prog 33 #[.slice a l.length c] w fun e w' => (∃ x : Int, e = .returned (.tuple #[.int .i64 x, .int .i64 (depthE l)])) ∧ Kept (fun _ => False) w w' := by
  have hlen := hok.len
  have HCA := Lib.hid (rCalls_any l a c w h hok)
  clear h
  by_cases hz : checkI l = 0
  case neg =>
    have hzd : (checkI l != 0) = true := by simpa using hz
    have hzd' : (checkI l == 0) = false := by simpa using hz
    have hde : depthE l = checkI l := if_neg hz
    rw [hde]
    have HZ := Lib.hid hz
    clear hz hde
    generalize checkI l = r at *
    go_enter Tryz.func33, Tryz.ntmps33
    go_wp2_with fail
    refine HCA.out.mono ?_
    rintro e w1 ⟨⟨va, vn, vc, rfl, hr⟩, hk1⟩
    clear hr
    go_wp2_with fail
    refine bodyPost_ret (v := .tuple #[.int .i64 0, .int .i64 r]) (by simp [results, Tryz.results33, go_sem]) rfl ?_
    exact ⟨⟨_, rfl⟩, hk1⟩
  case pos =>
    have hin := calls_in hz
    have hpn : (partsL l).length ≤ 64 := (check_parts hz).2.1
    have hpo := parts_ok (check_parts hz).1
    have hrl : ∀ js ∈ callsL l, js.length ≤ 1000000 := fun js hjs => by
      obtain ⟨p, hp, rfl⟩ := List.mem_map.1 hjs
      obtain ⟨i, hi, hpi⟩ := List.getElem_of_mem hp
      obtain ⟨f, t, hpe, _, ht⟩ := hpo.nat (i := i) (p := p) (by rw [List.getElem?_eq_getElem hi, hpi])
      have := row_len l p
      rw [hpe] at this
      have : (rowL l p).length ≤ t := by rw [hpe]; simpa using this
      omega
    have hcl : (callsL l).length = (partsL l).length := List.length_map _
    have hpos : 0 < (callsL l).length := by
      rw [hcl, parts_len]
      have := ((begins_ok (check_parts hz).1).2.1 0).2 (.inl rfl)
      exact List.length_pos_of_mem this
    obtain ⟨hd0, hd1⟩ := depthE_ok hz
    have HD0 := Lib.hid hd0
    have HD1 := Lib.hid hd1
    rw [hz] at HCA
    have h64 : (callsL l).length ≤ 64 := by omega
    clear hz hpo hcl hpn hd0 hd1
    generalize depthE l = E at *
    generalize callsL l = L at *
    have HIN := Lib.hid hin
    have HRL := Lib.hid hrl
    obtain ⟨n, hn⟩ : ∃ n, L.length = n := ⟨_, rfl⟩
    have HN := Lib.hid hn
    obtain ⟨i0, hI0, hI1, hI2, hI3⟩ := info_parts infoI
    clear hin hrl
    go_enter Tryz.func33, Tryz.ntmps33
    go_wp2_with fail
    refine HCA.out.mono ?_
    rintro e wB ⟨⟨va, vn, vc, rfl, hR⟩, hkB⟩
    have hR := hR trivial
    obtain ⟨vals, hvl, hvs, hvr⟩ := hR.ex
    obtain ⟨cg, ccap, hcv2, hcc, hcl2⟩ := Sl.some_ hvs (by rw [List.length_map]; omega)
    rw [List.length_map, hvl, hn] at hcv2
    cases hcv2
    have HROW : Hid (∀ (k : Nat) (js : List Int), L[k]? = some js → ∃ ua uc, wB.cell? ⟨cg, k, none⟩ = some (.slice ua js.length uc) ∧ Ints wB (.slice ua js.length uc) js) := Lib.hid (fun k js hjs => by
      have hk : k < vals.length := by rw [hvl]; exact (List.getElem?_eq_some_iff.1 hjs).1
      obtain ⟨u, hu⟩ : ∃ u, vals[k]? = some u := ⟨_, List.getElem?_eq_getElem hk⟩
      have hi := hvr k u js hu hjs
      obtain ⟨ua, uc, he⟩ := Sl.any hi
      rw [List.length_map] at he
      subst he
      have := Sl.cell hvs (i := k) (c := cell1 (.slice ua js.length uc)) (by rw [List.getElem?_map, hu]; rfl) (k := 0) (by omega)
      exact ⟨ua, uc, by simpa [cell1] using this, hi⟩)
    rw [hn] at hpos h64
    clear hvs hvr hcc hvl hR HCA hn
    go_wp2_with (at_make; (refine wpList_makeSl (w := wB) rfl (.tmp 23) (.tmp 23) 28 rfl (.int .i64 0) rfl Tryz.underlying28 hI0 hI1 hI2 hI3 (by omega) n rfl rfl (by omega) ?_; intro w3 hD3 hk3))
    have hD : Ints w3 (.slice (some ⟨wB.heap.size, 0, none⟩) n n) (List.replicate n 0) := by
      unfold Ints
      rw [List.map_replicate]
      exact hD3
    generalize hdg : wB.heap.size = dg at *
    have HDD := Lib.hid (And.intro hD hk3)
    have HDG := Lib.hid hdg
    clear hD hD3 hk3
    go_loopw [7] (fun kv wr => ∃ k : Nat, kv = .int .i64 k ∧ k ≤ n ∧ Ints wr (.slice (some ⟨dg, 0, none⟩) n n) (List.replicate k 1 ++ List.replicate (n - k) 0) ∧ Kept (fun _ => False) wB wr) (fun kv _ => n - (intOf kv).toNat)
    case atStart => exact ⟨0, rfl, by omega, by simpa using HDD.out.1, HDD.out.2⟩
    case round =>
      clear HDD
      obtain ⟨k, rfl, hk, hD, hK⟩ := hrel
      have HD := Lib.hid hD
      have HK := Lib.hid hK
      by_cases hkn : k < n
      case pos =>
        have hdl : decide ((k : Int) < n) = true := decide_eq_true (by omega)
        have l1 := Sl.lt hD _ rfl
        have f1 := Sl.frozen hD k
        have hlt : k < (List.replicate k (1 : Int) ++ List.replicate (n - k) 0).length := by simp; omega
        obtain ⟨d, hd⟩ : ∃ x, (List.replicate k (1 : Int) ++ List.replicate (n - k) 0)[k]? = some x := ⟨_, List.getElem?_eq_getElem hlt⟩
        have hc := Ints.cell hD hd
        clear hD hK
        go_wp2_with fail
        go_roundw
        case rel => exact ⟨k + 1, by simp, by omega, by
          have := Ints.set HD.out hlt 1
          rw [List.set_append_right (h := by simp)] at this
          simp only [List.length_replicate, Nat.sub_self] at this
          rw [show n - k = (n - (k + 1)) + 1 by omega, List.replicate_succ, List.set_cons_zero] at this
          rw [List.replicate_succ', List.append_assoc]
          exact this, HK.out.setCell (fun hlt => by have hlt : dg < wB.heap.size := hlt; have := HDG.out; omega) _⟩
        case measure => (simp [intOf]; omega)
      case neg =>
      obtain rfl : n = k := by omega
      have hdl : decide ((n : Int) < n) = false := decide_eq_false (by omega)
      have HD1 := Lib.hid (show Ints wr (.slice (some ⟨dg, 0, none⟩) n n) (rxN L 0) from by
        have := HD.out
        rw [Nat.sub_self, List.replicate_zero, List.append_nil] at this
        unfold rxN
        rw [HN.out]
        exact this)
      clear hD hK HD hkn
      go_wp2_with fail
      clear hdl
      go_loopw [8] (fun rv wr => ∃ r : Nat, rv = .int .i64 r ∧ r ≤ n + 1 ∧ Ints wr (.slice (some ⟨dg, 0, none⟩) n n) (rxN L r) ∧ (∀ q, q < r → (rxR L L.length (rxN L q, false)).2 = true) ∧ Kept (fun _ => False) wB wr) (fun rv _ => n + 1 - (intOf rv).toNat)
      case atStart => exact ⟨0, rfl, by omega, HD1.out, fun q hq => absurd hq (Nat.not_lt_zero _), HK.out⟩
      case round =>
      clear HD1 HK
      obtain ⟨r, rfl, hr, hD, hall, hK⟩ := hrel
      have HD := Lib.hid hD
      have HK := Lib.hid hK
      have HALL := Lib.hid hall
      by_cases hrn : r ≤ n
      case neg =>
        obtain rfl : r = n + 1 := by omega
        have hdl : decide (((n + 1 : Nat) : Int) ≤ n) = false := decide_eq_false (by omega)
        have hE : E = 151 := HD1.out (fun hd => by
          have h1 := rx_ends HIN.out hd
          have h2 := HALL.out L.length (by have := HN.out; omega)
          rw [h1] at h2
          cases h2)
        clear hD hK hall
        go_wp2_with fail
        refine bodyPost_ret (v := .tuple #[.int .i64 0, .int .i64 151]) (by simp [results, Tryz.results33, go_sem]) rfl ?_
        exact ⟨⟨_, by rw [hE]⟩, hkB.trans HK.out (fun _ _ h => h)⟩
      case pos =>
      have hdl : decide ((r : Int) ≤ n) = true := decide_eq_true (by omega)
      have hBr := Bm.rxN HRL.out (by rw [HN.out]; exact h64) r
      have hLr := rxN_len L HIN.out r
      rw [HN.out] at hLr
      have hOr := rxN_one L r
      rw [HN.out] at hOr
      have HBLO := Lib.hid (And.intro hBr (And.intro hLr hOr))
      clear hD hK hall hBr hLr hOr
      go_wp2_with fail
      clear hdl
      go_loopw [9, 10] (fun cv kv wr => ∃ k : Nat, kv = .int .i64 k ∧ cv = .bool (rxR L k (rxN L r, false)).2 ∧ k ≤ n ∧ Ints wr (.slice (some ⟨dg, 0, none⟩) n n) (rxR L k (rxN L r, false)).1 ∧ Kept (fun _ => False) wB wr) (fun _ kv _ => n - (intOf kv).toNat)
      case atStart => exact ⟨0, rfl, rfl, by omega, HD.out, HK.out⟩
      case round =>
      clear HD HK
      obtain ⟨k, rfl, rfl, hk, hD, hK⟩ := hrel
      have HD := Lib.hid hD
      have HK := Lib.hid hK
      by_cases hkn : k < n
      case neg =>
        obtain rfl : n = k := by omega
        have hdl : decide ((n : Int) < n) = false := decide_eq_false (by omega)
        obtain ⟨fl, hfl⟩ : ∃ b, (rxR L n (rxN L r, false)).2 = b := ⟨_, rfl⟩
        rw [hfl]
        have HFL := Lib.hid hfl
        clear hD hK hfl hkn
        cases fl
        case true =>
          go_wp2_with fail
          go_roundw
          case rel => exact ⟨r + 1, by simp, by omega, by
            have := HD.out
            unfold rxN
            rw [HN.out]
            exact this, fun q hq => by
            by_cases e : q = r
            · subst e; rw [HN.out]; exact HFL.out
            · exact HALL.out q (by omega), HK.out⟩
          case measure => (simp [intOf]; omega)
        case false =>
          have hst := rxR_flag n _ HFL.out
          have hD2 := HD.out
          rw [hst.1] at hD2
          have HD2 := Lib.hid (show Ints wr (.slice (some ⟨dg, 0, none⟩) n n) (rxN L r) from hD2)
          have HT := Lib.hid (rx_tells HIN.out (r := r) (by rw [HN.out]; exact HFL.out))
          have hmb := mxL_bound (D := rxN L r) (B := 1 + r * 64000000) (fun x hx => by
            obtain ⟨i, hi, rfl⟩ := List.getElem_of_mem hx
            have := HBLO.out.1 i
            rw [List.getD_eq_getElem?_getD, List.getElem?_eq_getElem hi] at this
            exact this) (by omega)
          clear hst hD2 HD
          generalize hDr : rxN L r = D at *
          have hDl := HBLO.out.2.1
          clear hDr
          go_wp2_with fail
          go_loopw [12, 13] (fun mv kv wr => ∃ k : Nat, kv = .int .i64 k ∧ mv = .int .i64 (mxL (D.take k)) ∧ k ≤ n ∧ Kept (fun _ => False) wB wr ∧ Ints wr (.slice (some ⟨dg, 0, none⟩) n n) D) (fun _ kv _ => n - (intOf kv).toNat)
          case atStart => exact ⟨0, rfl, rfl, by omega, HK.out, HD2.out⟩
          case round =>
          obtain ⟨k, rfl, rfl, hk, hK, hD⟩ := hrel
          have HK := Lib.hid hK
          have HD := Lib.hid hD
          by_cases hkn : k < n
          case pos =>
            have hdl : decide ((k : Int) < n) = true := decide_eq_true (by omega)
            obtain ⟨d, hd⟩ : ∃ x, D[k]? = some x := ⟨_, List.getElem?_eq_getElem (by omega)⟩
            have hc := Ints.cell hD hd
            have l1 := Sl.lt hD _ rfl
            have HM := Lib.hid (mxL_take hd)
            clear hD hK hd
            go_wp2_with fail
            go_roundw
            case rel => exact ⟨k + 1, by simp, by rw [HM.out], by omega, HK.out, HD.out⟩
            case measure => (simp [intOf]; omega)
          case neg =>
            obtain rfl : n = k := by omega
            have hdl : decide ((n : Int) < n) = false := decide_eq_false (by omega)
            rw [List.take_of_length_le (by omega)]
            obtain ⟨d, hd⟩ : ∃ x, D[0]? = some x := ⟨_, List.getElem?_eq_getElem (by omega)⟩
            have hc := Ints.cell hD hd
            have l1 := Sl.lt hD _ rfl
            clear hD hK hd
            by_cases h8 : 8 < mxL D
            · have hE : E = 151 := HD1.out (fun hd => by have := HT.out.2 hd; omega)
              have hd8 : decide (8 < mxL D) = true := decide_eq_true h8
              have hd8' : decide (mxL D > 8) = true := decide_eq_true h8
              clear h8
              go_wp2_with fail
              refine bodyPost_ret (v := .tuple #[.int .i64 0, .int .i64 151]) (by simp [results, Tryz.results33, go_sem]) rfl ?_
              exact ⟨⟨_, rfl⟩, hkB.trans HK.out (fun _ _ h => h)⟩
            · have hE : E = 0 := HD0.out (HT.out.1 (by omega))
              have hd8 : decide (8 < mxL D) = false := decide_eq_false h8
              have hd8' : decide (mxL D > 8) = false := decide_eq_false h8
              clear h8
              go_wp2_with fail
              refine bodyPost_ret (v := .tuple #[.int .i64 d, .int .i64 0]) (by simp [results, Tryz.results33, go_sem]) rfl ?_
              exact ⟨⟨_, rfl⟩, hkB.trans HK.out (fun _ _ h => h)⟩
      case pos =>
      have hdl : decide ((k : Int) < n) = true := decide_eq_true (by omega)
      obtain ⟨js, hjs⟩ : ∃ js, L[k]? = some js := ⟨_, List.getElem?_eq_getElem (by rw [HN.out]; exact hkn)⟩
      have hgj : L.getD k [] = js := by rw [List.getD_eq_getElem?_getD, hjs]; rfl
      have hjl := HRL.out js (List.mem_of_getElem? hjs)
      have HJI := Lib.hid (fun j hj => HIN.out js (List.mem_of_getElem? hjs) j hj)
      have HSU := Lib.hid (rxR_succ L k (rxN L r, false))
      rw [hgj] at HSU
      obtain ⟨ua, uc, hcu, hju⟩ := HROW.out k js hjs
      have HJU := Lib.hid hju
      have HCU := Lib.hid hcu
      have hBk := Bm.rxR (B := 1 + r * 64000000) (s := (rxN L r, false)) HRL.out k HBLO.out.1 (by omega)
      have hBk : Bm (1 + r * 64000000 + k * 1000000) (rxR L k (rxN L r, false)).1 := hBk
      have hLk := rxR_len L k (rxN L r, false)
      have hLk : (rxR L k (rxN L r, false)).1.length = n := hLk.trans HBLO.out.2.1
      have hOk : ∀ i, i < n → 1 ≤ (rxR L k (rxN L r, false)).1.getD i 0 := fun i hi => Int.le_trans (HBLO.out.2.2 i hi) (rxR_mono L k _ i)
      generalize rxR L k (rxN L r, false) = S at *
      have HS := Lib.hid (And.intro hBk (And.intro hLk hOk))
      clear hD hK hjs hgj hcu hju hBk hLk hOk
      go_wp2_with fail
      clear hdl
      go_loopw [9, 11] (fun cv iv wr => ∃ i : Nat, iv = .int .i64 i ∧ cv = .bool (rxK k (js.take i) S).2 ∧ i ≤ js.length ∧ Ints wr (.slice (some ⟨dg, 0, none⟩) n n) (rxK k (js.take i) S).1 ∧ Kept (fun _ => False) wB wr) (fun _ iv _ => js.length - (intOf iv).toNat)
      case atStart => exact ⟨0, rfl, rfl, by omega, HD.out, HK.out⟩
      case round =>
      clear HD HK
      obtain ⟨i, rfl, rfl, hi, hD, hK⟩ := hrel
      have HD := Lib.hid hD
      have HK := Lib.hid hK
      have hcl3 : cg < wB.heap.size := by rw [HDG.out]; exact hcl2
      have hcg := (hK.cell (p := ⟨cg, k, none⟩) hcl3 id).trans HCU.out
      have hclw := Nat.lt_of_lt_of_le hcl3 hK.size
      clear hcl3
      by_cases hil : i < js.length
      case neg =>
        have hdl : decide ((i : Int) < js.length) = false := decide_eq_false (by omega)
        have HT : Hid (js.take i = js) := Lib.hid (List.take_of_length_le (by omega))
        clear hD hK
        go_wp2_with fail
        go_roundw
        case rel => exact ⟨k + 1, by simp, by rw [HSU.out, HT.out], by omega, by
          have := HD.out
          rw [HT.out] at this
          rw [HSU.out]
          exact this, HK.out⟩
        case measure => (simp [intOf]; omega)
      case pos =>
      have hdl : decide ((i : Int) < js.length) = true := decide_eq_true (by omega)
      obtain ⟨j, hj⟩ : ∃ j, js[i]? = some j := ⟨_, List.getElem?_eq_getElem hil⟩
      have hjr := HJI.out j (List.mem_of_getElem? hj)
      rw [HN.out] at hjr
      obtain ⟨m, rfl⟩ : ∃ m : Nat, j = m := ⟨j.toNat, by omega⟩
      have hju := Sl.kept hK HJU.out (fun _ _ h => h)
      obtain ⟨ug, ucap, huv, hucc, hul⟩ := Sl.some_ hju (by rw [List.length_map]; omega)
      rw [List.length_map] at huv
      cases huv
      have hjc := Ints.cell hju hj
      have HTK := Lib.hid (rxK_take (k := k) hj S)
      have hB1 := (Bm.rxK k (js.take i) HS.out.1 (by omega))
      have hL1 := (rxK_len k (js.take i) S).trans HS.out.2.1
      have hO1 : ∀ i2, i2 < n → 1 ≤ (rxK k (js.take i) S).1.getD i2 0 := fun i2 hi2 => Int.le_trans (HS.out.2.2 i2 hi2) (rxK_mono k _ _ i2)
      have htl : (js.take i).length = i := by rw [List.length_take]; omega
      rw [htl] at hB1
      generalize rxK k (js.take i) S = T at *
      obtain ⟨D, fl⟩ := T
      have hB1 : Bm (1 + r * 64000000 + k * 1000000 + i) D := hB1
      have hL1 : D.length = n := hL1
      have hD : Ints wr (.slice (some ⟨dg, 0, none⟩) n n) D := hD
      have hO1 : ∀ i2, i2 < n → 1 ≤ D.getD i2 0 := hO1
      obtain ⟨dm, hdm⟩ : ∃ x, D[m]? = some x := ⟨_, List.getElem?_eq_getElem (by omega)⟩
      obtain ⟨dk, hdk⟩ : ∃ x, D[k]? = some x := ⟨_, List.getElem?_eq_getElem (by omega)⟩
      have hgm : D.getD m 0 = dm := by rw [List.getD_eq_getElem?_getD, hdm]; rfl
      have hgk : D.getD k 0 = dk := by rw [List.getD_eq_getElem?_getD, hdk]; rfl
      have hm1 := hO1 m (by omega)
      have hm2 := hB1 m
      rw [hgm] at hm1 hm2
      have hk1 := hO1 k hkn
      have hk2 := hB1 k
      rw [hgk] at hk1 hk2
      have hcm := Ints.cell hD hdm
      have hck := Ints.cell hD hdk
      have l1 := Sl.lt hD _ rfl
      have f1 := Sl.frozen hD k
      have hone : rx1 k (D, fl) m = if dk < dm + 1 then (D.set k (dm + 1), true) else (D, fl) := by
        unfold rx1
        rw [Int.toNat_natCast, show (D, fl).1.getD k 0 = dk from hgk, show (D, fl).1.getD m 0 = dm from hgm]
      have HONE := Lib.hid hone
      have HB := Lib.hid (And.intro hB1 (And.intro hL1 hO1))
      clear hD hK hj hju hucc hB1 hL1 hO1 hdm hdk hgm hgk hone htl
      by_cases hlt : dk < dm + 1
      case neg =>
        have hd8 : decide (dk < dm + 1) = false := decide_eq_false hlt
        have hd8' : decide (dm + 1 > dk) = false := decide_eq_false hlt
        have HONE2 := Lib.hid (HONE.out.trans (if_neg hlt))
        clear hlt
        go_upto_region 19 with fail
        refine wp_region_mix0 [.w, .w, .w, .w, .l, .w, .w, .l, .w, .l, .w, .w, .w, .w, .l, .w] (by kernel_rfl) (by kernel_rfl) ?_
        repeat (first
          | (refine mix_w1 ?_; go_big_quiet_step (fail); refine wpQuiet_nil ?_)
          | (refine mix_l1 rfl ?_; go_big_quiet_step (fail); refine wpQuiet_nil ?_)
          | (refine mix_t fun Q' hQ' => ?_; go_wp2))
        refine mix_nil ?_
        go_wp2_with fail
        go_roundw
        case rel => exact ⟨i + 1, by simp, by rw [HTK.out, HONE2.out], by omega, by rw [HTK.out, HONE2.out]; exact HD.out, HK.out.drew⟩
        case measure => (simp [intOf]; omega)
      case pos =>
        have hd8 : decide (dk < dm + 1) = true := decide_eq_true hlt
        have hd8' : decide (dm + 1 > dk) = true := decide_eq_true hlt
        have HONE2 := Lib.hid (HONE.out.trans (if_pos hlt))
        clear hlt
        go_upto_region 19 with fail
        refine wp_region_mix0 [.w, .w, .w, .w, .l, .w, .w, .l, .w, .l, .w, .w, .w, .w, .l, .w] (by kernel_rfl) (by kernel_rfl) ?_
        repeat (first
          | (refine mix_w1 ?_; go_big_quiet_step (fail); refine wpQuiet_nil ?_)
          | (refine mix_l1 rfl ?_; go_big_quiet_step (fail); refine wpQuiet_nil ?_)
          | (refine mix_t fun Q' hQ' => ?_; go_wp2))
        refine mix_nil ?_
        go_wp2_with fail
        have hs := Ints.set (w := wr.drew) (i := k) HD.out (by show k < D.length; rw [HB.out.2.1]; exact hkn) (dm + 1)
        go_roundw
        case rel => exact ⟨i + 1, by simp, by rw [HTK.out, HONE2.out], by omega, by rw [HTK.out, HONE2.out]; exact hs, HK.out.drew.setCell (fun hlt => by have hlt : dg < wB.heap.size := hlt; have := HDG.out; omega) _⟩
        case measure => (simp [intOf]; omega)

end Go.Proofs.YtlkgmcacbfoijaaGreat

set_option linter.unusedSimpArgs false
set_option linter.unusedVariables false
namespace Go.Proofs.YtlkgmcacbfoijaaGreat
open Go.RowKit

/-! ### the document's table in memory -/
def u64c (n : Nat) : List Value := [u64 n]
abbrev Us (w : World) (v : Value) (L : List Nat) : Prop := Sl w 24 1 v (L.map u64c)
theorem infoU64 : (Tryz.prog.info? 24).map (fun i => (i.zero, i.size, i.bytes)) = some (some (u64 0), 1, 8) := by kernel_rfl
theorem naUs : ∀ w, (isAgg 58).run Tryz.prog w = .ok false w := fun w => by kernel_rfl
theorem Us.cell {w : World} {g n cap : Nat} {L : List Nat} (h : Us w (.slice (some ⟨g, 0, none⟩) n cap) L) {i : Nat} (hi : i < L.length) : w.cell? ⟨g, i, none⟩ = some (u64 (L.getD i 0)) := by
  have := Sl.cell h (i := i) (c := u64c (L.getD i 0)) (by rw [List.getElem?_map, List.getD_eq_getElem?_getD, List.getElem?_eq_getElem hi]; rfl) (k := 0) (by omega)
  simpa [u64c] using this
theorem Us.set {w : World} {g n cap : Nat} {L : List Nat} (h : Us w (.slice (some ⟨g, 0, none⟩) n cap) L) {i : Nat} (hi : i < L.length) (x : Nat) : Us (w.setCell ⟨g, i, none⟩ (u64 x)) (.slice (some ⟨g, 0, none⟩) n cap) (L.set i x) := by
  have := Sl.setCell h (i := i) (c := u64c L[i]) (by rw [List.getElem?_map, List.getElem?_eq_getElem hi]; rfl) (k := 0) (by omega) (u64 x)
  simp only [u64c, List.set_cons_zero, Nat.mul_one, Nat.add_zero] at this
  unfold Us
  rw [List.map_set]
  exact this
structure TM (n gL gS gW : Nat) (w : World) (TL TS TW : List Nat) : Prop where
  l : Us w (.slice (some ⟨gL, 0, none⟩) n n) TL
  s : Us w (.slice (some ⟨gS, 0, none⟩) n n) TS
  w_ : Us w (.slice (some ⟨gW, 0, none⟩) n n) TW
  ne : gL ≠ gS ∧ gL ≠ gW ∧ gS ≠ gW
  ll : TL.length = n
  ls : TS.length = n
  lw : TW.length = n
theorem TM.kept {n gL gS gW : Nat} {w w' : World} {TL TS TW : List Nat} {F : Nat → Prop} (h : TM n gL gS gW w TL TS TW) (hk : Kept F w w') (hF : ∀ g, F g → g ≠ gL ∧ g ≠ gS ∧ g ≠ gW) : TM n gL gS gW w' TL TS TW :=
  ⟨Sl.kept hk h.l (fun g hg f => (hF g f).1 (Option.some.inj hg).symm), Sl.kept hk h.s (fun g hg f => (hF g f).2.1 (Option.some.inj hg).symm), Sl.kept hk h.w_ (fun g hg f => (hF g f).2.2 (Option.some.inj hg).symm), h.ne, h.ll, h.ls, h.lw⟩
theorem TM.drew {n gL gS gW : Nat} {w : World} {TL TS TW : List Nat} (h : TM n gL gS gW w TL TS TW) : TM n gL gS gW w.drew TL TS TW := ⟨h.l, h.s, h.w_, h.ne, h.ll, h.ls, h.lw⟩
theorem TM.setL {n gL gS gW : Nat} {w : World} {TL TS TW : List Nat} (h : TM n gL gS gW w TL TS TW) {i : Nat} (hi : i < n) (x : Nat) : TM n gL gS gW (w.setCell ⟨gL, i, none⟩ (u64 x)) (TL.set i x) TS TW :=
  ⟨Us.set h.l (by rw [h.ll]; exact hi) x, Sl.kept (Kept.setCell (F := fun g => g = gL) (Kept.refl _ w) (p := ⟨gL, i, none⟩) (fun _ => rfl) _) h.s (fun g hg e => h.ne.1 (by have hg2 : gS = g := Option.some.inj hg; have e : g = gL := e; omega)), Sl.kept (Kept.setCell (F := fun g => g = gL) (Kept.refl _ w) (p := ⟨gL, i, none⟩) (fun _ => rfl) _) h.w_ (fun g hg e => h.ne.2.1 (by have hg2 : gW = g := Option.some.inj hg; have e : g = gL := e; omega)), h.ne, by rw [List.length_set]; exact h.ll, h.ls, h.lw⟩
theorem TM.setS {n gL gS gW : Nat} {w : World} {TL TS TW : List Nat} (h : TM n gL gS gW w TL TS TW) {i : Nat} (hi : i < n) (x : Nat) : TM n gL gS gW (w.setCell ⟨gS, i, none⟩ (u64 x)) TL (TS.set i x) TW :=
  ⟨Sl.kept (Kept.setCell (F := fun g => g = gS) (Kept.refl _ w) (p := ⟨gS, i, none⟩) (fun _ => rfl) _) h.l (fun g hg e => h.ne.1 (by have hg2 : gL = g := Option.some.inj hg; have e : g = gS := e; omega)), Us.set h.s (by rw [h.ls]; exact hi) x, Sl.kept (Kept.setCell (F := fun g => g = gS) (Kept.refl _ w) (p := ⟨gS, i, none⟩) (fun _ => rfl) _) h.w_ (fun g hg e => h.ne.2.2 (by have hg2 : gW = g := Option.some.inj hg; have e : g = gS := e; omega)), h.ne, h.ll, by rw [List.length_set]; exact h.ls, h.lw⟩
theorem TM.setW {n gL gS gW : Nat} {w : World} {TL TS TW : List Nat} (h : TM n gL gS gW w TL TS TW) {i : Nat} (hi : i < n) (x : Nat) : TM n gL gS gW (w.setCell ⟨gW, i, none⟩ (u64 x)) TL TS (TW.set i x) :=
  ⟨Sl.kept (Kept.setCell (F := fun g => g = gW) (Kept.refl _ w) (p := ⟨gW, i, none⟩) (fun _ => rfl) _) h.l (fun g hg e => h.ne.2.1 (by have hg2 : gL = g := Option.some.inj hg; have e : g = gW := e; omega)), Sl.kept (Kept.setCell (F := fun g => g = gW) (Kept.refl _ w) (p := ⟨gW, i, none⟩) (fun _ => rfl) _) h.s (fun g hg e => h.ne.2.2 (by have hg2 : gS = g := Option.some.inj hg; have e : g = gW := e; omega)), Us.set h.w_ (by rw [h.lw]; exact hi) x, h.ne, h.ll, h.ls, by rw [List.length_set]; exact h.lw⟩
set_option maxHeartbeats 4000000 in
set_option maxRecDepth 100000 in
theorem rplus_any (a b : Nat) (w : World) (ha : a ≤ top) (hb : b ≤ top) : Calls Tryz.prog 58 #[u64 a, u64 b] w fun e w' => e = .returned (u64 (plusN a b)) ∧ w = w' := by
  rw [plusN_eq ha hb]
  unfold top at *
  have hma : min (a : Int) 9223372036854775807 = a := by omega
  go_enter Tryz.func58, Tryz.ntmps58
  go_wp2_with fail
  go_ret
  exact ⟨congrArg (fun x => Ending.returned (Value.int .u64 x)) (by omega), rfl⟩
set_option maxHeartbeats 4000000 in
set_option maxRecDepth 100000 in
theorem rtimes_any (a b : Nat) (w : World) (ha : a ≤ top) (hb : b ≤ top) : Calls Tryz.prog 59 #[u64 a, u64 b] w fun e w' => e = .returned (u64 (timesN a b)) ∧ w = w' := by
  unfold timesN
  unfold top at *
  by_cases hb0 : b = 0
  · subst hb0
    rw [if_neg (by omega)]
    go_enter Tryz.func59, Tryz.ntmps59
    go_wp2_with fail
    refine bodyPost_ret (v := u64 0) (by simp [results, Tryz.results59, go_sem]) rfl ?_
    exact ⟨by rw [Nat.mul_zero], rfl⟩
  · have hbp : 0 < b := by omega
    have hbd : decide ((0 : Int) < b) = true := decide_eq_true (by omega)
    have hbd' : decide ((b : Int) > 0) = true := decide_eq_true (by omega)
    have hbz : ((b : Int) == 0) = false := beq_eq_false_iff_ne.2 (by omega)
    have hq : (9223372036854775807 : Int) / (b : Int) = ((9223372036854775807 / b : Nat) : Int) := by rw [Int.natCast_ediv]; rfl
    have hq2 : Int.tdiv (9223372036854775807 : Int) (b : Int) = ((9223372036854775807 / b : Nat) : Int) := by rw [Int.tdiv_eq_ediv_of_nonneg (by decide), hq]
    have hqm := Nat.div_mul_le_self 9223372036854775807 b
    have hqle : 9223372036854775807 / b ≤ 9223372036854775807 := Nat.div_le_self _ _
    by_cases h : 9223372036854775807 / b < a
    · rw [if_pos ⟨hbp, h⟩]
      have hd : decide (9223372036854775807 / b < a) = true := decide_eq_true h
      have hpb : decide (0 < b) = true := decide_eq_true hbp
      generalize 9223372036854775807 / b = q at *
      clear hb0 hqm h
      go_enter Tryz.func59, Tryz.ntmps59
      go_wp2_with fail
      go_ret
      exact ⟨rfl, rfl⟩
    · rw [if_neg (fun e => h e.2)]
      have hd : decide (9223372036854775807 / b < a) = false := decide_eq_false h
      have hpb : decide (0 < b) = true := decide_eq_true hbp
      have hab : a * b ≤ 9223372036854775807 := Nat.le_trans (Nat.mul_le_mul_right b (Nat.le_of_not_lt h)) hqm
      have hm : ((a * b : Nat) : Int) = (a : Int) * (b : Int) := Int.natCast_mul a b
      have hm1 : 0 ≤ (a : Int) * (b : Int) := by rw [← hm]; omega
      have hm2 : (a : Int) * (b : Int) ≤ 9223372036854775807 := by rw [← hm]; omega
      have HM := Lib.hid hm
      generalize 9223372036854775807 / b = q at *
      clear hb0 hqm h hab hm
      go_enter Tryz.func59, Tryz.ntmps59
      go_wp2_with fail
      refine bodyPost_ret (v := .int .u64 ((a : Int) * b)) (by simp [results, Tryz.results59, go_sem]) rfl ?_
      exact ⟨by rw [← HM.out], rfl⟩
theorem docM_take {R : RuleP} {V : Nat → Nat} {j k : Int} {js : List Int} {m : Nat} (h : js[m]? = some k) : docM R V j (js.take (m + 1)) = R.j (docM R V j (js.take m)) (V k.toNat) := by
  unfold docM
  rw [List.take_add_one, h, List.foldl_append]
  rfl
end Go.Proofs.YtlkgmcacbfoijaaGreat


import Derived.Test.YtlkgmcacbfoijaaEd
import Derived.Test.YtlkgmcacbfoijaaEe
import Derived.Test.YtlkgmcacbfoijaaQj
set_option linter.unusedSimpArgs false
set_option linter.unusedVariables false
namespace Go.Proofs.Ytlkgmcacbfoijaa
open Go.RowKit

/-! ### flow.Depth -/
theorem idxG_ok {tg : Int} : ∀ (P : List Pt2) (i : Nat), (∃ p ∈ P, p.1 = tg) → ∃ k : Nat, idxG tg P i = (i + k : Nat) ∧ k < P.length ∧ (P.getD k (0, 0)).1 = tg
  | [], i, h => by obtain ⟨p, hp, _⟩ := h; simp at hp
  | p :: r, i, h => by
    unfold idxG
    split
    · rename_i he
      exact ⟨0, by simp, by simp, by simpa using he⟩
    · rename_i he
      obtain ⟨k, h1, h2, h3⟩ := idxG_ok r (i + 1) (by
        obtain ⟨q, hq, hq2⟩ := h
        rcases List.mem_cons.1 hq with rfl | hq
        · exact absurd (by simpa using hq2) he
        · exact ⟨q, hq, hq2⟩)
      exact ⟨k + 1, by rw [h1]; congr 1; omega, by simpa using h2, by simpa using h3⟩
theorem part_of_begin {l : List In} {t : Int} (h : t ∈ beginsL l) : ∃ p ∈ partsL l, p.1 = t := by
  obtain ⟨i, hi, e⟩ := List.getElem_of_mem h
  refine ⟨partAt (beginsL l) l.length i, ?_, ?_⟩
  · unfold partsL partsOf
    exact List.mem_map.2 ⟨i, List.mem_range.2 hi, rfl⟩
  · show (beginsL l).getD i 0 = t
    rw [List.getD_eq_getElem?_getD, List.getElem?_eq_getElem hi, e]
    rfl
theorem named_begin {l : List In} (hz : checkI l = 0) {i : Nat} {x : In} {t : Int} (hx : l[i]? = some x) (hr : Rch l i) (ht : namC i x = some t) : t ∈ beginsL l := by
  obtain ⟨hi, hs⟩ := rch_ok hz hr
  have htg : tgtC l i = some t := by
    unfold tgtC
    rw [hx, hs]
    unfold namC at ht
    split at ht
    · rename_i hc
      simpa [hc] using ht
    · cases ht
  exact ((begins_ok (check_parts hz).1).2.1 t).2 (.inr ⟨i, hi, htg⟩)
theorem nm_in {l : List In} (hz : checkI l = 0) {i : Nat} {j : Int} (h : j ∈ nmAt l i) : 0 ≤ j ∧ j < (partsL l).length := by
  unfold nmAt at h
  split at h
  · rename_i x hx
    split at h
    · rename_i t ht
      by_cases hr : Rch l i
      · rw [@if_pos _ (Classical.propDecidable _) hr] at h
        obtain ⟨k, h1, h2, _⟩ := idxG_ok (partsL l) 0 (part_of_begin (named_begin hz hx hr ht))
        have hje : j = idxG t (partsL l) 0 := by simpa using h
        rw [hje, h1]
        omega
      · rw [@if_neg _ (Classical.propDecidable _) hr] at h
        simp at h
    · simp at h
  · simp at h
theorem mem_row {l : List In} {p : Pt2} {j : Int} : j ∈ rowL l p ↔ ∃ i, p.1.toNat ≤ i ∧ i < p.2.toNat ∧ j ∈ nmAt l i := by
  unfold rowL
  rw [(compact_ok (sortL_ok _).1).2, (sortL_ok _).2]
  unfold rawL
  rw [List.mem_flatMap]
  constructor
  · rintro ⟨d, hd, hj⟩
    have := List.mem_range.1 hd
    exact ⟨p.1.toNat + d, by omega, by omega, hj⟩
  · rintro ⟨i, h1, h2, hj⟩
    exact ⟨i - p.1.toNat, List.mem_range.2 (by omega), by rwa [show p.1.toNat + (i - p.1.toNat) = i by omega]⟩
theorem calls_in {l : List In} (hz : checkI l = 0) : InL (callsL l) := fun js hjs j hj => by
  obtain ⟨p, hp, rfl⟩ := List.mem_map.1 hjs
  obtain ⟨i, _, _, h⟩ := mem_row.1 hj
  have := nm_in hz h
  have e : (callsL l).length = (partsL l).length := List.length_map _
  omega
theorem row_len (l : List In) (p : Pt2) : (rowL l p).length ≤ p.2.toNat := by
  unfold rowL
  have h1 := Lib.compact_length_le (sortL (rawL l p.1.toNat p.2.toNat))
  rw [sortL_len] at h1
  have h2 := rawL_len l p.1.toNat p.2.toNat
  omega
noncomputable def depthE (l : List In) : Int := if checkI l = 0 then (if ((dpT (callsL l) (callsL l).length).1.2 || decide (8 < (dpT (callsL l) (callsL l).length).2)) = true then 151 else 0) else checkI l
set_option maxHeartbeats 8000000 in
set_option maxRecDepth 100000 in
theorem fDepth_any (l : List In) (a : Option Addr) (c : Nat) (w : World) (h : Ins w (.slice a l.length c) l) (hok : InsOk l) :
    Calls Try.prog 26 #[.slice a l.length c] w fun e w' => (∃ x : Int, e = .returned (.tuple #[.int .i64 x, .int .i64 (depthE l)])) ∧ Kept (fun _ => False) w w' := by
  have hmf : ∀ (fn : Fn) (first cap : Array Value) (w : World), (Instr.makeFunc fn first cap).run Try.prog w = .ok (.func fn first cap) w := fun _ _ _ _ => rfl
  have hlen := hok.len
  have HCA := Lib.hid (fCalls_any l a c w h hok)
  clear h
  by_cases hz : checkI l = 0
  case neg =>
    have hzd : (checkI l != 0) = true := by simpa using hz
    have hzd' : (checkI l == 0) = false := by simpa using hz
    have hde : depthE l = checkI l := if_neg hz
    rw [hde]
    have HZ := Lib.hid hz
    clear hz hde
    generalize checkI l = r at *
    go_enter Try.func26, Try.ntmps26
    go_wp2_with fail
    refine HCA.out.mono ?_
    rintro e w1 ⟨⟨va, vn, vc, rfl, hr⟩, hk1⟩
    clear hr
    go_wp2_with fail
    refine bodyPost_ret (v := .tuple #[.int .i64 0, .int .i64 r]) (by simp [results, Try.results26, go_sem]) rfl ?_
    exact ⟨⟨_, rfl⟩, hk1.alloc _⟩
  case pos =>
    have hin := calls_in hz
    have hpn : (partsL l).length ≤ 64 := (check_parts hz).2.1
    have hpo := parts_ok (check_parts hz).1
    have hrl : ∀ js ∈ callsL l, js.length ≤ 1000000 := fun js hjs => by
      obtain ⟨p, hp, rfl⟩ := List.mem_map.1 hjs
      obtain ⟨i, hi, hpi⟩ := List.getElem_of_mem hp
      obtain ⟨f, t, hpe, _, ht⟩ := hpo.nat (i := i) (p := p) (by rw [List.getElem?_eq_getElem hi, hpi])
      have := row_len l p
      rw [hpe] at this
      have : (rowL l p).length ≤ t := by rw [hpe]; simpa using this
      omega
    have hcl : (callsL l).length = (partsL l).length := List.length_map _
    have hde : depthE l = if ((dpT (callsL l) (callsL l).length).1.2 || decide (8 < (dpT (callsL l) (callsL l).length).2)) = true then 151 else 0 := if_pos hz
    have hpos : 0 < (callsL l).length := by
      rw [hcl, parts_len]
      have := ((begins_ok (check_parts hz).1).2.1 0).2 (.inl rfl)
      exact List.length_pos_of_mem this
    rw [hde]
    rw [hz] at HCA
    have h64 : (callsL l).length ≤ 64 := by omega
    clear hz hpo hde hcl hpn
    generalize callsL l = L at *
    obtain ⟨TT, hTT⟩ : ∃ T, dpT L L.length = T := ⟨_, rfl⟩
    rw [hTT]
    have HTT := Lib.hid hTT
    clear hTT
    obtain ⟨i0, hI0, hI1, hI2, hI3⟩ := info_parts infoI
    go_enter Try.func26, Try.ntmps26
    go_wp2_with fail
    refine HCA.out.mono ?_
    rintro e wB ⟨⟨va, vn, vc, rfl, hR⟩, hkB⟩
    have hR := hR trivial
    obtain ⟨vals, hvl, hvs, hvr⟩ := hR.ex
    obtain ⟨cg, ccap, hcv2, hcc, hcl2⟩ := Sl.some_ hvs (by rw [List.length_map]; omega)
    rw [List.length_map, hvl] at hcv2
    cases hcv2
    have HR := Lib.hid hR
    clear hvs hvr hcc hvl hR HCA
    go_upto_region 9 with (refine wpList_makeSl (w := wB.alloc (.cells #[.slice (some ⟨cg, 0, none⟩) L.length vc] 78)) rfl (.tmp 20) (.tmp 20) 32 rfl (.int .i64 0) rfl Try.underlying32 hI0 hI1 hI2 hI3 (by omega) L.length rfl rfl (by omega) ?_; intro w3 hD3 hk3; have c0 : w3.cell? ⟨wB.heap.size, 0, none⟩ = some (.slice (some ⟨cg, 0, none⟩) L.length vc) := (hk3.blk id (Blk.new wB 78 #[.slice (some ⟨cg, 0, none⟩) L.length vc])).cell 0; have l0 : wB.heap.size < w3.heap.size := (hk3.blk id (Blk.new wB 78 #[.slice (some ⟨cg, 0, none⟩) L.length vc])).lt)
    have hDM : DM wB.heap.size (wB.heap.size + 1) w3.heap.size (w3.heap.size + 1) (w3.heap.size + 1 + 1) (((w3.alloc (.cells #[.slice (some ⟨wB.heap.size + 1, 0, none⟩) L.length L.length] 32)).alloc (.cells #[.bool false] 4)).alloc (.cells #[.func (.func 38) #[] #[.pointer (some ⟨w3.heap.size + 1, 0, none⟩), .pointer (some ⟨w3.heap.size, 0, none⟩), .pointer (some ⟨wB.heap.size, 0, none⟩), .pointer (some ⟨w3.heap.size + 1 + 1, 0, none⟩)]] 81)) wB (.slice (some ⟨cg, 0, none⟩) L.length vc) L (List.replicate L.length 0) false := by
      have hb := Blk.new wB 78 #[.slice (some ⟨cg, 0, none⟩) L.length vc]
      have hk0 := (Kept.refl (fun _ => False) wB).alloc (.cells #[.slice (some ⟨cg, 0, none⟩) L.length vc] 78)
      have hsz3 := hk3.size
      have hsz3 : wB.heap.size + 1 ≤ w3.heap.size := by simpa using hsz3
      have hdl : wB.heap.size + 1 < w3.heap.size := by
        have := Sl.lt hD3 _ rfl
        simpa using this
      refine ⟨(((hk3.blk id hb).alloc _).alloc _).alloc _, ?_, ((Blk.new w3 _ _).alloc _).alloc _, (blk_new (w3.alloc _) (by simp)).alloc _, blk_new ((w3.alloc _).alloc _) (by simp), ((((hk0.trans hk3 (fun _ _ h => h)).alloc _).alloc _).alloc _), by omega⟩
      have := ((Sl.alloc hD3 (.cells #[.slice (some ⟨wB.heap.size + 1, 0, none⟩) L.length L.length] 32)).alloc (.cells #[.bool false] 4)).alloc (.cells #[.func (.func 38) #[] #[.pointer (some ⟨w3.heap.size + 1, 0, none⟩), .pointer (some ⟨w3.heap.size, 0, none⟩), .pointer (some ⟨wB.heap.size, 0, none⟩), .pointer (some ⟨w3.heap.size + 1 + 1, 0, none⟩)]] 81)
      unfold Ints
      rw [List.map_replicate]
      rw [show wB.heap.size + 1 = (wB.alloc (.cells #[.slice (some ⟨cg, 0, none⟩) L.length vc] 78)).heap.size by simp]
      rw [show wB.heap.size + 1 = (wB.alloc (.cells #[.slice (some ⟨cg, 0, none⟩) L.length vc] 78)).heap.size by simp] at this
      exact this
    have HDM := Lib.hid hDM
    have hord := hDM.o
    have d0 := hDM.c.cell 0
    clear hDM hD3 hk3 c0 l0
    generalize ((w3.alloc (.cells #[.slice (some ⟨wB.heap.size + 1, 0, none⟩) L.length L.length] 32)).alloc (.cells #[.bool false] 4)).alloc (.cells #[.func (.func 38) #[] #[.pointer (some ⟨w3.heap.size + 1, 0, none⟩), .pointer (some ⟨w3.heap.size, 0, none⟩), .pointer (some ⟨wB.heap.size, 0, none⟩), .pointer (some ⟨w3.heap.size + 1 + 1, 0, none⟩)]] 81) = w4 at *
    generalize w3.heap.size + 1 + 1 = bf at *
    generalize w3.heap.size + 1 = br at *
    generalize w3.heap.size = bd at *
    generalize wB.heap.size + 1 = dg at *
    generalize hbc : wB.heap.size = bc at *
    go_wp2_with fail
    clear d0
    go_loopw [9, 25] (fun mv kv wr => ∃ k : Nat, kv = .int .i64 k ∧ mv = .int .i64 (dpT L k).2 ∧ k ≤ L.length ∧ DM bc dg bd br bf wr wB (.slice (some ⟨cg, 0, none⟩) L.length vc) L (dpT L k).1.1 (dpT L k).1.2) (fun _ kv _ => L.length - (intOf kv).toNat)
    case atStart => exact ⟨0, rfl, rfl, by omega, HDM.out⟩
    case round =>
      clear HDM
      obtain ⟨k, rfl, rfl, hk, hM⟩ := hrel
      obtain ⟨hbd, hm0, hm1⟩ := dpT_bd hin k hk
      have htl := told_le (dpT L k).1.1
      rw [hbd.len] at htl
      have c3 := hM.f.cell 0
      have c2 := hM.r.cell 0
      have c1 := hM.dc.cell 0
      have c0 := hM.c.cell 0
      have HM := Lib.hid hM
      have HBD := Lib.hid hbd
      clear hM hbd
      by_cases hkl : k < L.length
      case neg =>
        obtain rfl : k = L.length := by omega
        have hdl : decide ((L.length : Int) < L.length) = false := decide_eq_false (by omega)
        rw [HTT.out] at hm0 hm1 htl c2 HM HBD ⊢
        obtain ⟨⟨D, rd⟩, m⟩ := TT
        have hlen1 : D.length = L.length := HBD.out.len
        obtain ⟨d0, hd0⟩ : ∃ d, D[0]? = some d := ⟨_, List.getElem?_eq_getElem (by omega)⟩
        have hdc := Ints.cell HM.out.d hd0
        have HKF := Lib.hid (hkB.trans HM.out.k (fun _ _ h => h))
        cases rd
        case true =>
          go_wp2_with fail
          refine bodyPost_ret (v := .tuple #[.int .i64 0, .int .i64 151]) (by simp [results, Try.results26, go_sem]) rfl ?_
          exact ⟨⟨_, rfl⟩, HKF.out⟩
        case false =>
          by_cases h8 : 8 < m
          · have hd8 : decide (8 < m) = true := decide_eq_true h8
            have hd8' : decide (m > 8) = true := decide_eq_true h8
            clear h8
            go_wp2_with fail
            refine bodyPost_ret (v := .tuple #[.int .i64 0, .int .i64 151]) (by simp [results, Try.results26, go_sem]) rfl ?_
            exact ⟨⟨0, by simp [hd8]⟩, HKF.out⟩
          · have hd8 : decide (8 < m) = false := decide_eq_false h8
            have hd8' : decide (m > 8) = false := decide_eq_false h8
            clear h8
            go_wp2_with fail
            refine bodyPost_ret (v := .tuple #[.int .i64 d0, .int .i64 0]) (by simp [results, Try.results26, go_sem]) rfl ?_
            exact ⟨⟨d0, by simp [hd8]⟩, HKF.out⟩
      case pos =>
        have hdl : decide ((k : Int) < L.length) = true := decide_eq_true (by omega)
        have HC := Lib.hid (walk_ih bc dg bd br bf wB _ L HR.out hin (by omega) hrl (L.length + 1) k (dpT L k).1.1 (dpT L k).1.2 wr (zeros_small HBD.out) hkl HBD.out HM.out)
        have HS := Lib.hid (dpT_succ L k)
        have hst := wk_step hin (L.length + 1) k (dpT L k).1 hkl HBD.out
        have hr0 := hst.2.1
        have hr1 := hst.2.2
        have htl2 := told_le (wkG L (L.length + 1) k (dpT L k).1).1.1
        rw [hst.1.bd.len] at htl2
        clear hst
        have HC' : Hid (Calls Try.prog 38 #[.int .i64 k, .pointer (some ⟨br, 0, none⟩), .pointer (some ⟨bd, 0, none⟩), .pointer (some ⟨bc, 0, none⟩), .pointer (some ⟨bf, 0, none⟩)] wr fun e w' =>
          e = .returned (.int .i64 (wkG L (L.length + 1) k (dpT L k).1).2) ∧ DM bc dg bd br bf w' wB (.slice (some ⟨cg, 0, none⟩) L.length vc) L (wkG L (L.length + 1) k (dpT L k).1).1.1 (wkG L (L.length + 1) k (dpT L k).1).1.2) := HC
        clear HC HBD
        generalize wkG L (L.length + 1) k (dpT L k).1 = rr at *
        obtain ⟨⟨D2, rd2⟩, r2⟩ := rr
        generalize hmm : (dpT L k).2 = m at *
        go_wp2_with fail
        refine HC'.out.mono ?_
        rintro e w8 ⟨rfl, hM8⟩
        have HM8 := Lib.hid hM8
        clear hM8 HC' HM
        go_wp2_with fail
        go_roundw
        case rel => exact ⟨k + 1, by simp, by rw [HS.out], by omega, by rw [HS.out]; exact HM8.out⟩
        case measure => (simp [intOf]; omega)

end Go.Proofs.Ytlkgmcacbfoijaa

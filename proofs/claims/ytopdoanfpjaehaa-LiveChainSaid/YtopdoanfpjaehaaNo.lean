import Derived.Test.YtopdoanfpjaehaaNn
import Derived.Test.YtopdoanfpjaehaaKd
import Derived.Test.YtopdoanfpjaehaaJi
set_option linter.unusedSimpArgs false
set_option linter.unusedVariables false
namespace Go.Proofs.Ytopdoanfpjaehaa
open Go.RowKit

/-! ### live.Live, live.Dead -/
set_option maxHeartbeats 4000000 in
set_option maxRecDepth 100000 in
theorem lLive_any (l : List In) (a : Option Addr) (c : Nat) (w : World) (h : Ins w (.slice a l.length c) l) (hok : InsOk l) :
    Calls Try.prog 7 #[.slice a l.length c] w fun e w' => ∃ ov, e = .returned (.tuple #[ov, .int .i64 (checkI l)]) ∧ (checkI l = 0 → ∃ L, LiveIs l L ∧ U16s w' ov L) ∧ (checkI l ≠ 0 → ov = .slice none 0 0) ∧ Kept (fun _ => False) w w' ∧ ∀ g, ov.ownBlock = some g → w.heap.size ≤ g := by
  have HCK := Lib.hid (fun W hI => icheck_any l a c W hI hok)
  have HMA := Lib.hid (fun hz W hI => lmade_any l a c W hI hok hz)
  have HIN := Lib.hid (fun (W : World) (hk : Kept (fun _ => False) w W) => h.kept hk)
  clear h hok
  by_cases hz : checkI l = 0
  case neg =>
    have hzd : (checkI l != 0) = true := by simpa using hz
    generalize checkI l = r at *
    have HNZ := Lib.hid hz
    clear hz HMA
    go_enter Try.func7, Try.ntmps7
    go_wp2_with fail
    refine (HCK.out _ (HIN.out _ (Kept.refl _ w))).mono ?_
    rintro e w1 ⟨⟨p, rfl⟩, hk1⟩
    go_wp2_with fail
    go_ret2
    exact ⟨_, rfl, fun h => absurd h HNZ.out, fun _ => rfl, hk1, fun g hg => by simp [Value.ownBlock] at hg⟩
  case pos =>
    have HMA2 := Lib.hid (HMA.out hz)
    rw [hz] at HCK
    rw [hz]
    clear hz HMA
    go_enter Try.func7, Try.ntmps7
    go_wp2_with fail
    refine (HCK.out _ (HIN.out _ (Kept.refl _ w))).mono ?_
    rintro e w1 ⟨⟨p, rfl⟩, hk1⟩
    go_wp2_with fail
    refine (HMA2.out _ (HIN.out _ hk1)).mono ?_
    rintro e w2 ⟨g, ng, nc, vg, vc, V, L, rfl, hR, hL⟩
    have hc2 := hR.blk.cell 2
    have hsz := hk1.size
    have hnew := hR.new.1
    go_wp2_with fail
    go_ret2
    exact ⟨_, rfl, fun _ => ⟨L, hL, hR.lv⟩, fun h => absurd rfl h, hk1.trans hR.kept (fun _ _ h => h), fun g hg => by
      have : vg = g := Option.some.inj hg
      omega⟩

/-- an operation whose result nothing reads -/
noncomputable def deadC (l : List In) (L : List Nat) (i : Nat) : Bool := match l[i]?, (rchL l)[i]? with
  | some x, some true => (((clsI x == 4) || (clsI x == 7)) || (x.op == 24)) && (((behN L (nextC i x) &&& bitN x.dst : Nat) : Int) == 0)
  | _, _ => false
noncomputable def deadU (l : List In) (L : List Nat) (j : Nat) : List Int := ((List.range j).filter (deadC l L)).map Int.ofNat
theorem deadU_more {l : List In} {L : List Nat} {j : Nat} (h : deadC l L j = true) : deadU l L (j + 1) = deadU l L j ++ [(j : Int)] := by
  unfold deadU
  rw [List.range_succ, List.filter_append, List.map_append]
  simp [h]
theorem deadU_same {l : List In} {L : List Nat} {j : Nat} (h : deadC l L j = false) : deadU l L (j + 1) = deadU l L j := by
  unfold deadU
  rw [List.range_succ, List.filter_append, List.map_append]
  simp [h]
theorem deadU_len (l : List In) (L : List Nat) (j : Nat) : (deadU l L j).length ≤ j := by
  unfold deadU
  rw [List.length_map]
  exact Nat.le_trans (List.length_filter_le _ _) (by simp)
theorem rch_sec {l : List In} (hz : checkI l = 0) {i : Nat} (h : (rchL l)[i]? = some true) : (secL l)[i]? = some false := by
  have hi := (List.getElem?_eq_some_iff.1 h).1
  rw [rchL_len] at hi
  rw [rchL_get hi] at h
  have := Option.some.inj h
  exact (rch_ok hz (@of_decide_eq_true _ (Classical.propDecidable _) this)).2
set_option maxHeartbeats 16000000 in
set_option maxRecDepth 100000 in
theorem lDead_any (l : List In) (a : Option Addr) (c : Nat) (w : World) (h : Ins w (.slice a l.length c) l) (hok : InsOk l) :
    Calls Try.prog 8 #[.slice a l.length c] w fun e w' => ∃ ov, e = .returned (.tuple #[ov, .int .i64 (checkI l)]) ∧ (checkI l = 0 → ∃ L, LiveIs l L ∧ Ints w' ov (deadU l L l.length)) ∧ (checkI l ≠ 0 → ov = .slice none 0 0) ∧ Kept (fun _ => False) w w' ∧ ∀ g, ov.ownBlock = some g → w.heap.size ≤ g := by
  have HRE := Lib.hid (fun W hI => fReached_any l a c W hI hok)
  have HMA := Lib.hid (fun hz W hI => lmade_any l a c W hI hok hz)
  have HIN := Lib.hid (fun (W : World) (hk : Kept (fun _ => False) w W) => h.kept hk)
  have hlen := hok.len
  clear h
  by_cases hz : checkI l = 0
  case neg =>
    have hzd : (checkI l != 0) = true := by simpa using hz
    have HRE2 : Hid (∀ W, Ins W (.slice a l.length c) l → Calls Try.prog 18 #[.slice a l.length c] W fun e w' => ∃ ov, e = .returned (.tuple #[ov, .int .i64 (checkI l)]) ∧ Kept (fun _ => False) W w') := Lib.hid (fun W hI => (HRE.out W hI).mono (fun e w' h => by
      obtain ⟨ov, h1, h2, h3, h4⟩ := h
      exact ⟨ov, h1, h3⟩))
    clear HRE HMA hok
    generalize checkI l = r at *
    have HNZ := Lib.hid hz
    clear hz
    go_enter Try.func8, Try.ntmps8
    go_wp2_with fail
    refine (HRE2.out _ (HIN.out _ (Kept.refl _ w))).mono ?_
    rintro e w1 ⟨ov, rfl, hk1⟩
    go_wp2_with fail
    go_ret2
    exact ⟨_, rfl, fun h => absurd h HNZ.out, fun _ => rfl, hk1, fun g hg => by simp [Value.ownBlock] at hg⟩
  case pos =>
    have HMA2 := Lib.hid (HMA.out hz)
    have HZ := Lib.hid hz
    have hl1 : 1 ≤ l.length := (slots_zero (check_parts hz).1).1
    rw [hz] at HRE
    rw [hz]
    clear hz HMA
    go_enter Try.func8, Try.ntmps8
    go_wp2_with fail
    refine (HRE.out _ (HIN.out _ (Kept.refl _ w))).mono ?_
    rintro e w1 ⟨isv, rfl, hB, hk1, hiso⟩
    have hB := hB (by first | trivial | rfl)
    obtain ⟨ig, ic, rfl, hil, hig⟩ := Sl.some_ hB (by rw [List.length_map, rchL_len]; exact hl1)
    rw [List.length_map, rchL_len] at *
    go_wp2_with fail
    refine (HMA2.out _ (HIN.out _ hk1)).mono ?_
    rintro e w2 ⟨g, ng, nc, vg, vc, V, L, rfl, hR, hL⟩
    have hK2 := hk1.trans hR.kept (fun _ _ h => h)
    have HIS := Lib.hid (fun W (hk : Kept (fun _ => False) w2 W) => (Sl.kept (hR.kept.trans hk (fun _ _ h => h)) hB (fun _ _ h => h) : Bls W (.slice (some ⟨ig, 0, none⟩) l.length ic) (rchL l)))
    have HRW := Lib.hid (fun W (hk : Kept (fun _ => False) w2 W) => hR.quiet hk)
    have HL := Lib.hid hL
    have HK2 := Lib.hid hK2
    clear hB hiso hil hig hR hL HMA2 HRE hk1 hK2
    go_wp2_with fail
    go_loopw [7, 23] (fun ov iv wr => ∃ j : Nat, iv = .int .i64 j ∧ j ≤ l.length ∧ Ints wr ov (deadU l L j) ∧ (∀ g, ov.ownBlock = some g → w2.heap.size ≤ g) ∧ Kept (fun _ => False) w2 wr) (fun _ iv _ => l.length - (intOf iv).toNat)
    case atStart => exact ⟨0, rfl, by omega, Sl.nil _ _ _, fun g hg => by simp [Value.ownBlock] at hg, Kept.refl _ _⟩
    case round =>
      obtain ⟨j, rfl, hj, hO, hown, hK⟩ := hrel
      by_cases hlt : j < l.length
      case neg =>
        obtain rfl : j = l.length := by omega
        go_wp2_with fail
        go_ret2
        exact ⟨_, rfl, fun _ => ⟨L, HL.out, hO⟩, fun h => absurd rfl h, HK2.out.trans hK (fun _ _ h => h), fun g hg => by have := hown g hg; have := HK2.out.size; omega⟩
      case pos =>
        obtain ⟨x, hx⟩ : ∃ x, l[j]? = some x := ⟨_, List.getElem?_eq_getElem hlt⟩
        have hxo := hok.at_ hx
        have h7 := and7 hxo.op
        have hInw := HIN.out wr (HK2.out.trans hK (fun _ _ h => h))
        obtain ⟨lg, lo, hla, hlg, c0, c1, c2, c3, c4⟩ := hInw.at_ hx
        subst hla
        have hB := HIS.out _ hK
        obtain ⟨rb, hrb⟩ : ∃ rb, (rchL l)[j]? = some rb := ⟨_, List.getElem?_eq_getElem (by rw [rchL_len]; exact hlt)⟩
        have hbc := Bls.cell hB hrb
        have hilt := Sl.lt hB ig rfl
        obtain ⟨oA, oC, hov⟩ := Sl.any hO
        have hol := deadU_len l L j
        have HOL := Lib.hid hol
        obtain ⟨cl, hcl⟩ : ∃ cl, x.op % 8 = cl := ⟨_, rfl⟩
        rw [hcl] at h7
        cases rb
        case false =>
          have hd : deadC l L j = false := by unfold deadC; rw [hx, hrb]
          have HD := Lib.hid (deadU_same hd)
          clear hd hx hrb hol hcl hov
          go_wp2_with fail
          refine wp_region_mix0 [.w, .w, .w, .l, .w, .w, .w, .w, .w, .w, .w, .w, .w, .l, .w, .w, .w, .w, .w, .w, .k, .w, .l, .k, .w, .w, .w] (by kernel_rfl) (by kernel_rfl) ?_
          repeat (first
            | (refine mix_w1 ?_; go_big_quiet_step (fail); refine wpQuiet_nil ?_)
            | (refine mix_l1 rfl ?_; go_big_quiet_step (fail); refine wpQuiet_nil ?_)
            | (refine mix_k rfl fun Q' hQ' => ?_; go_wp2_with fail; refine hQ' _ _ rfl ?_; clear hQ' Q'))
          refine mix_done ?_
          go_wp2_with fail
          go_roundw
          case rel => exact ⟨j + 1, by go_num, by omega, by rw [HD.out]; exact (hO.alloc _).drew, hown, (hK.alloc _).drew⟩
          case measure => (simp [intOf]; try omega)
        case true =>
          have hs := rch_sec HZ.out hrb
          have hri := right_of HZ.out hx hs
          obtain ⟨hd10, -⟩ := rightB_regs hri
          have hkn := right_known hri
          have hsame := behN_same (L := L) (nextN_same hxo hkn (i := j))
          have hrng : ∀ t ∈ nextN j x, 0 ≤ t ∧ t < l.length := fun t ht => by
            obtain ⟨n, rfl, hn, _⟩ := next_ok HZ.out hx hs ((nextN_same hxo hkn t).1 ht)
            omega
          have hdc : deadC l L j = ((((cl == 4) || (cl == 7)) || (x.op == 24)) && (((behN L (nextN j x) &&& bitN x.dst : Nat) : Int) == 0)) := by
            unfold deadC
            rw [hx, hrb, hsame, ← hcl]
            rfl
          have HBH := Lib.hid (fun W (hW : RowM w1 W g l (some ⟨lg, lo, none⟩) c ng nc vg vc V (nxU l l.length) L) => lbehind_any hW (i := j) (by rw [nxU_at l hlt, nx_at hx hs]) hrng HL.out.lt (by omega) (nextN_len j x))
          have HBT := Lib.hid (fun W => lbit_any x.dst W ⟨hxo.dst.1, hd10⟩)
          have hand := bits_and_u16_nat (behN_lt HL.out.lt (nextN j x)) (show bitN x.dst < 65536 by have := bitN_lt hd10; omega)
          have HMO := Lib.hid (@deadU_more l L j)
          have HSA := Lib.hid (@deadU_same l L j)
          have HDC := Lib.hid hdc
          generalize behN L (nextN j x) = bh at *
          generalize bitN x.dst = bd at *
          clear hdc hx hrb hol hcl hov hs hri hkn hsame hrng
          have hRd : RowM w1 (wr.alloc (.cells (inVals x) 26)).drew g l (some ⟨lg, lo, none⟩) c ng nc vg vc V (nxU l l.length) L := HRW.out _ (hK.alloc _).drew
          rcases (show (cl == 4) = true ∨ (cl == 4) = false ∧ (cl == 7) = true ∨ (cl == 4) = false ∧ (cl == 7) = false ∧ (x.op == 24) = true ∨ (cl == 4) = false ∧ (cl == 7) = false ∧ (x.op == 24) = false by
            cases (cl == 4) <;> cases (cl == 7) <;> cases (x.op == 24) <;> simp) with q4 | ⟨q4, q7⟩ | ⟨q4, q7, q24⟩ | ⟨q4, q7, q24⟩
          case inr.inr.inr =>
            have hd := HDC.out
            rw [q4, q7, q24] at hd
            have HD := Lib.hid (HSA.out hd)
            clear hd
            go_wp2_with fail
            refine wp_region_mix0 [.w, .w, .w, .l, .w, .w, .w, .w, .w, .w, .w, .w, .w, .l, .w, .w, .w, .w, .w, .w, .k, .w, .l, .k, .w, .w, .w] (by kernel_rfl) (by kernel_rfl) ?_
            repeat (first
              | (refine mix_w1 ?_; go_big_quiet_step (fail); refine wpQuiet_nil ?_)
              | (refine mix_l1 rfl ?_; go_big_quiet_step (fail); refine wpQuiet_nil ?_)
              | (refine mix_k rfl fun Q' hQ' => ?_; go_wp2_with fail; refine hQ' _ _ rfl ?_; clear hQ' Q'))
            refine mix_done ?_
            go_wp2_with fail
            go_roundw
            case rel => exact ⟨j + 1, by go_num, by omega, by rw [HD.out]; exact (hO.alloc _).drew, hown, (hK.alloc _).drew⟩
            case measure => (simp [intOf]; try omega)
          all_goals
            cases hzz : ((((bh &&& bd : Nat) : Int)) == 0)
            case false =>
              have hd := HDC.out
              rw [hzz, Bool.and_false] at hd
              have HD := Lib.hid (HSA.out hd)
              clear hd
              go_wp2_with fail
              refine wp_region_mix0 [.w, .w, .w, .l, .w, .w, .w, .w, .w, .w, .w, .w, .w, .l, .w, .w, .w, .w, .w, .w, .k, .w, .l, .k, .w, .w, .w] (by kernel_rfl) (by kernel_rfl) ?_
              repeat (first
                | (refine mix_w1 ?_; go_big_quiet_step (fail); refine wpQuiet_nil ?_)
                | (refine mix_l1 rfl ?_; go_big_quiet_step (fail); refine wpQuiet_nil ?_))
              refine mix_k rfl fun Q' hQ' => ?_
              go_wp2_with fail
              refine (HBH.out _ hRd).mono ?_
              rintro e w3 ⟨rfl, rfl⟩
              go_wp2_with fail
              refine hQ' _ _ rfl ?_
              clear hQ' Q'
              repeat (first
                | (refine mix_w1 ?_; go_big_quiet_step (fail); refine wpQuiet_nil ?_)
                | (refine mix_l1 rfl ?_; go_big_quiet_step (fail); refine wpQuiet_nil ?_))
              refine mix_k rfl fun Q' hQ' => ?_
              go_wp2_with fail
              refine (HBT.out _).mono ?_
              rintro e w3 ⟨rfl, rfl⟩
              go_wp2_with fail
              refine hQ' _ _ rfl ?_
              clear hQ' Q'
              repeat (first
                | (refine mix_w1 ?_; go_big_quiet_step (fail); refine wpQuiet_nil ?_)
                | (refine mix_l1 rfl ?_; go_big_quiet_step (fail); refine wpQuiet_nil ?_))
              refine mix_done ?_
              go_wp2_with fail
              go_roundw
              case rel => exact ⟨j + 1, by go_num, by omega, by rw [HD.out]; exact (hO.alloc _).drew, hown, (hK.alloc _).drew⟩
              case measure => (simp [intOf]; try omega)
            case true =>
              have hd := HDC.out
              rw [hzz, Bool.and_true] at hd
              have hd2 : deadC l L j = true := by rw [hd]; first | (rw [q4]; rfl) | (rw [q4, q7]; rfl) | (rw [q4, q7, q24]; rfl)
              have HD := Lib.hid (HMO.out hd2)
              clear hd hd2
              go_wp2_with fail
              refine wp_region_mix0 [.w, .w, .w, .l, .w, .w, .w, .w, .w, .w, .w, .w, .w, .l, .w, .w, .w, .w, .w, .w, .k, .w, .l, .k, .w, .w, .w] (by kernel_rfl) (by kernel_rfl) ?_
              repeat (first
                | (refine mix_w1 ?_; go_big_quiet_step (fail); refine wpQuiet_nil ?_)
                | (refine mix_l1 rfl ?_; go_big_quiet_step (fail); refine wpQuiet_nil ?_))
              refine mix_k rfl fun Q' hQ' => ?_
              go_wp2_with fail
              refine (HBH.out _ hRd).mono ?_
              rintro e w3 ⟨rfl, rfl⟩
              go_wp2_with fail
              refine hQ' _ _ rfl ?_
              clear hQ' Q'
              repeat (first
                | (refine mix_w1 ?_; go_big_quiet_step (fail); refine wpQuiet_nil ?_)
                | (refine mix_l1 rfl ?_; go_big_quiet_step (fail); refine wpQuiet_nil ?_))
              refine mix_k rfl fun Q' hQ' => ?_
              go_wp2_with fail
              refine (HBT.out _).mono ?_
              rintro e w3 ⟨rfl, rfl⟩
              go_wp2_with fail
              refine hQ' _ _ rfl ?_
              clear hQ' Q'
              repeat (first
                | (refine mix_w1 ?_; go_big_quiet_step (fail); refine wpQuiet_nil ?_)
                | (refine mix_l1 rfl ?_; go_big_quiet_step (fail); refine wpQuiet_nil ?_))
              refine mix_done ?_
              have hsA : (wr.alloc (.cells (inVals x) 26)).drew.heap.size = wr.heap.size + 1 := by show (Array.push _ _).size = _; rw [Array.size_push]
              have hO5 := (Sl.drew (Sl.alloc hO (.cells (inVals x) 26)))
              go_wp2_with (at_builtin; (refine wpList_pushI (w := (wr.alloc (.cells (inVals x) 26)).drew) rfl (.tmp 58) (.tmp 60) rfl _ (deadU l L j) j rfl (by rw [hsA]; rfl) hO5 (by have := HOL.out; omega) ?_); intro v5 w5 hL5 hk5 hw5)
              go_roundw
              case rel => exact ⟨j + 1, by go_num, by omega, by rw [HD.out]; exact hL5, fun g hg => by
                have q1 := hK.size
                have q2 : wr.heap.size ≤ (wr.alloc (.cells (inVals x) 26)).drew.heap.size := by show _ ≤ (Array.push _ _).size; rw [Array.size_push]; omega
                rcases hw5 g hg with h | h
                · exact hown g h
                · omega, ((hK.alloc _).drew).trans hk5 (fun k hk e => by have := hown k e; omega)⟩
              case measure => (simp [intOf]; try omega)

end Go.Proofs.Ytopdoanfpjaehaa

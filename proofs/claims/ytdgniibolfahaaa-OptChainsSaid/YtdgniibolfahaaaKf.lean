import Derived.Test.YtdgniibolfahaaaKe
import Derived.Test.YtdgniibolfahaaaMix
import Derived.Test.YtdgniibolfahaaaKe2
import Derived.Test.YtdgniibolfahaaaMh
set_option linter.unusedSimpArgs false
set_option linter.unusedVariables false
namespace Go.Proofs.Ytdgniibolfahaaa
open Go.RowKit

/-! ### opt: jumps, names, idle -/
set_option maxHeartbeats 4000000 in
theorem ojumps_any (x : In) (w : World) (hx : InOk x) : Calls Try.prog 31 #[.agg (inVals x)] w fun e w' => e = .returned (.bool (fjB x)) ∧ Kept (fun _ => False) w w' := by
  have h7 := and7 hx.op
  obtain ⟨r, hr⟩ : ∃ r, fjB x = r := ⟨_, rfl⟩
  rw [hr]
  unfold fjB clsI at hr
  generalize x.op % 8 = cl at *
  cases h5 : (cl == 5) <;> cases h6 : (cl == 6) <;> cases h1 : (x.op != 133) <;> cases h2 : (x.op != 149)
  all_goals
    simp only [h5, h6, h1, h2, Bool.true_and, Bool.false_and, Bool.true_or, Bool.false_or, Bool.or_true, Bool.and_true, Bool.and_false] at hr
    subst hr
    go_enter Try.func31, Try.ntmps31
    go_wp2_with fail
    go_ret
    exact ⟨rfl, by repeat (first | exact Kept.refl _ _ | refine Kept.alloc ?_ _)⟩
set_option maxHeartbeats 4000000 in
theorem onames_any (x : In) (w : World) : Calls Try.prog 34 #[.agg (inVals x)] w fun e w' => e = .returned (.bool (isCallB x)) ∧ Kept (fun _ => False) w w' := by
  obtain ⟨r, hr⟩ : ∃ r, isCallB x = r := ⟨_, rfl⟩
  rw [hr]
  unfold isCallB at hr
  cases h1 : (x.op == 133) <;> cases h2 : (x.src == 1) <;> cases h3 : (x.op == 24)
  all_goals
    simp only [h1, h2, h3, Bool.true_and, Bool.false_and, Bool.true_or, Bool.false_or, Bool.or_true, Bool.and_true, Bool.and_false] at hr
    subst hr
    go_enter Try.func34, Try.ntmps34
    go_wp2_with fail
    go_ret
    exact ⟨rfl, by repeat (first | exact Kept.refl _ _ | refine Kept.alloc ?_ _)⟩
def idleB (l : List In) (i : Nat) : Bool := match l[i]?, (secL l)[i]? with
  | some x, some false => (x.op == 5) && (x.off == 0)
  | _, _ => false
def idleS (l : List In) : Nat → Nat → Int
  | _, 0 => -1
  | i, n + 1 => if idleB l i = true then (i : Int) else idleS l (i + 1) n
def idleC (l : List In) : Int := idleS l 0 l.length
set_option maxHeartbeats 4000000 in
set_option maxRecDepth 100000 in
theorem idle_any (l : List In) (a : Option Addr) (c : Nat) (w : World) (h : Ins w (.slice a l.length c) l) (hok : InsOk l) :
    Calls Try.prog 22 #[.slice a l.length c] w fun e w' => e = .returned (.int .i64 (idleC l)) ∧ Kept (fun _ => False) w w' := by
  have hlen := hok.len
  have HSE := Lib.hid (fun W hI => second_any l a c W hI hok)
  have HIN := Lib.hid (fun (W : World) (hk : Kept (fun _ => False) w W) => h.kept hk)
  obtain ⟨r, hr⟩ : ∃ r, idleC l = r := ⟨_, rfl⟩
  rw [hr]
  have HR := Lib.hid hr
  clear hr hok
  go_enter Try.func22, Try.ntmps22
  go_wp2_with fail
  refine (HSE.out _ (HIN.out _ (Kept.refl _ w))).mono ?_
  rintro e w1 ⟨sv, rfl, hS, hk1, hsv⟩
  obtain ⟨sA, sC, hsvv⟩ := Sl.any hS
  rw [List.length_map, sec_len] at hsvv
  subst hsvv
  go_wp2_with fail
  go_loopw [9] (fun iv wr => ∃ i n : Nat, iv = .int .i64 i ∧ i + n = l.length ∧ idleS l i n = r ∧ w1 = wr) (fun iv _ => l.length - (intOf iv).toNat)
  case atStart => exact ⟨0, l.length, rfl, by omega, HR.out, rfl⟩
  case round =>
    obtain ⟨i, n, rfl, hin, hsc, rfl⟩ := hrel
    cases n with
    | zero =>
      obtain rfl : i = l.length := by omega
      have hsc : (-1 : Int) = r := hsc
      subst hsc
      have hnd : decide ((l.length : Int) < l.length) = false := decide_eq_false (by omega)
      clear HR
      go_wp2_with fail
      go_ret
      exact ⟨rfl, hk1⟩
    | succ n =>
      have hlt : i < l.length := by omega
      obtain ⟨x, hx⟩ : ∃ x, l[i]? = some x := ⟨_, List.getElem?_eq_getElem hlt⟩
      obtain ⟨b, hb⟩ := sec_get hlt
      obtain ⟨sg, sc, hsv2, hsg, d0⟩ := Bls.at_ hS hb
      rw [sec_len] at hsv2
      obtain ⟨rfl, -, rfl⟩ := Value.slice.inj hsv2
      obtain ⟨lg, lo, rfl, hlg, c0, c1, c2, c3, c4⟩ := (HIN.out _ hk1).at_ hx
      have hid : idleB l i = (!b && ((x.op == 5) && (x.off == 0))) := by
        unfold idleB
        rw [hx, hb]
        cases b <;> rfl
      have hst : (if idleB l i = true then (i : Int) else idleS l (i + 1) n) = r := hsc
      rw [hid] at hst
      clear hx hb hid hsc hsv2 HR
      cases b <;> cases q1 : (x.op == 5) <;> cases q2 : (x.off == 0)
      all_goals
        simp only [q1, q2, Bool.not_true, Bool.not_false, Bool.true_and, Bool.false_and, Bool.and_true, Bool.and_false, if_true, if_false, Bool.false_eq_true] at hst
        first
          | (subst hst
             go_wp2_with fail
             go_ret
             exact ⟨rfl, hk1⟩)
          | (have HST := Lib.hid hst
             clear hst
             go_wp2_with fail
             go_roundw
             case rel => exact ⟨i + 1, n, by go_num, by omega, HST.out, trivial⟩
             case measure => simp [intOf]; omega)

/-! ### equal lists -/
set_option maxHeartbeats 4000000 in
set_option maxRecDepth 100000 in
theorem ints_any (A B : List Int) (av bv : Value) (w : World) (hA : Ints w av A) (hB : Ints w bv B) (hlen : A.length ≤ 1000000) :
    Calls Try.prog 16 #[av, bv] w fun e w' => ∃ r, e = .returned (.bool r) ∧ (r = true ↔ A = B) ∧ Kept (fun _ => False) w w' := by
  obtain ⟨aA, aC, hav⟩ := Sl.any hA
  obtain ⟨bA, bC, hbv⟩ := Sl.any hB
  rw [List.length_map] at hav hbv
  subst hav
  subst hbv
  by_cases hl : A.length = B.length
  case neg =>
    have hd : ((A.length : Int) != (B.length : Int)) = true := bne_iff_ne.2 (by omega)
    have HL := Lib.hid hl
    clear hl
    go_enter Try.func16, Try.ntmps16
    go_wp2_with fail
    go_ret
    exact ⟨false, rfl, ⟨fun h => absurd h (by decide), fun h => absurd (congrArg List.length h) HL.out⟩, Kept.refl _ w⟩
  case pos =>
    have HL := Lib.hid hl
    have hBl : B.length ≤ 1000000 := by omega
    have hd : ((A.length : Int) != (B.length : Int)) = false := bne_eq_false_iff_eq.2 (by omega)
    clear hl
    go_enter Try.func16, Try.ntmps16
    go_wp2_with fail
    clear hd
    go_loopw [5] (fun iv wr => ∃ i : Nat, iv = .int .i64 i ∧ i ≤ A.length ∧ A.take i = B.take i ∧ Kept (fun _ => False) w wr) (fun iv _ => A.length - (intOf iv).toNat)
    case atStart => exact ⟨0, rfl, by omega, rfl, Kept.refl _ _⟩
    case round =>
      obtain ⟨i, rfl, hi, htk, hK⟩ := hrel
      by_cases hlt : i < A.length
      case neg =>
        obtain rfl : i = A.length := by omega
        have hnd : decide ((A.length : Int) < A.length) = false := decide_eq_false (by omega)
        have HT := Lib.hid htk
        clear htk
        go_wp2_with fail
        go_ret
        refine ⟨true, rfl, ⟨fun _ => ?_, fun _ => rfl⟩, hK⟩
        have := HT.out
        rw [List.take_length, HL.out, List.take_length] at this
        exact this
      case pos =>
        have hltB : i < B.length := by have := HL.out; omega
        obtain ⟨y, hy⟩ : ∃ y, A[i]? = some y := ⟨_, List.getElem?_eq_getElem hlt⟩
        obtain ⟨z, hz⟩ : ∃ z, B[i]? = some z := ⟨_, List.getElem?_eq_getElem hltB⟩
        obtain ⟨ag, ac, hav, hag, d0⟩ := Ints.at_ (Sl.kept hK hA (fun _ _ h => h)) hlt
        obtain ⟨bg, bc, hbv, hbg, d1⟩ := Ints.at_ (Sl.kept hK hB (fun _ _ h => h)) hltB
        rw [List.getD_eq_getElem?_getD, hy] at d0
        rw [List.getD_eq_getElem?_getD, hz] at d1
        have d0 : wr.cell? ⟨ag, i, none⟩ = some (.int .i64 y) := d0
        have d1 : wr.cell? ⟨bg, i, none⟩ = some (.int .i64 z) := d1
        obtain ⟨rfl, -, rfl⟩ := Value.slice.inj hav
        obtain ⟨rfl, -, rfl⟩ := Value.slice.inj hbv
        have HT := Lib.hid htk
        have HY := Lib.hid hy
        have HZ := Lib.hid hz
        clear htk hy hz hav hbv
        cases hq : (y != z)
        case true =>
          go_wp2_with fail
          refine wp_region_mix0 [.w, .w, .w, .l, .w, .w, .w, .l, .w] (by kernel_rfl) (by kernel_rfl) ?_
          repeat (first
            | (refine mix_w1 ?_; go_big_quiet_step (fail); refine wpQuiet_nil ?_)
            | (refine mix_l1 rfl ?_; go_big_quiet_step (fail); refine wpQuiet_nil ?_))
          refine mix_done ?_
          go_wp2_with fail
          go_ret
          refine ⟨false, rfl, ⟨fun h => absurd h (by decide), fun h => ?_⟩, hK.drew⟩
          exfalso
          have h1 := HY.out
          rw [h, HZ.out] at h1
          rw [Option.some.inj h1] at hq
          simp at hq
        case false =>
          have hyz : y = z := by simpa using hq
          have HE := Lib.hid hyz
          clear hyz
          go_wp2_with fail
          refine wp_region_mix0 [.w, .w, .w, .l, .w, .w, .w, .l, .w] (by kernel_rfl) (by kernel_rfl) ?_
          repeat (first
            | (refine mix_w1 ?_; go_big_quiet_step (fail); refine wpQuiet_nil ?_)
            | (refine mix_l1 rfl ?_; go_big_quiet_step (fail); refine wpQuiet_nil ?_))
          refine mix_done ?_
          go_wp2_with fail
          go_roundw
          case rel => exact ⟨i + 1, by go_num, by omega, by rw [List.take_add_one, List.take_add_one, HT.out, HY.out, HZ.out, HE.out], hK.drew⟩
          case measure => simp [intOf]; omega
set_option maxHeartbeats 4000000 in
set_option maxRecDepth 100000 in
theorem insns_any (A B : List In) (av bv : Value) (w : World) (hA : Ins w av A) (hB : Ins w bv B) (hlen : A.length ≤ 1000000) :
    Calls Try.prog 14 #[av, bv] w fun e w' => ∃ r, e = .returned (.bool r) ∧ (r = true ↔ A = B) ∧ Kept (fun _ => False) w w' := by
  obtain ⟨aA, aC, hav⟩ := hA.any
  obtain ⟨bA, bC, hbv⟩ := hB.any
  subst hav
  subst hbv
  by_cases hl : A.length = B.length
  case neg =>
    have hd : ((A.length : Int) != (B.length : Int)) = true := bne_iff_ne.2 (by omega)
    have HL := Lib.hid hl
    clear hl
    go_enter Try.func14, Try.ntmps14
    go_wp2_with fail
    go_ret
    exact ⟨false, rfl, ⟨fun h => absurd h (by decide), fun h => absurd (congrArg List.length h) HL.out⟩, Kept.refl _ w⟩
  case pos =>
    have HL := Lib.hid hl
    have hBl : B.length ≤ 1000000 := by omega
    have hd : ((A.length : Int) != (B.length : Int)) = false := bne_eq_false_iff_eq.2 (by omega)
    clear hl
    go_enter Try.func14, Try.ntmps14
    go_wp2_with fail
    clear hd
    go_loopw [5] (fun iv wr => ∃ i : Nat, iv = .int .i64 i ∧ i ≤ A.length ∧ A.take i = B.take i ∧ Kept (fun _ => False) w wr) (fun iv _ => A.length - (intOf iv).toNat)
    case atStart => exact ⟨0, rfl, by omega, rfl, Kept.refl _ _⟩
    case round =>
      obtain ⟨i, rfl, hi, htk, hK⟩ := hrel
      by_cases hlt : i < A.length
      case neg =>
        obtain rfl : i = A.length := by omega
        have hnd : decide ((A.length : Int) < A.length) = false := decide_eq_false (by omega)
        have HT := Lib.hid htk
        clear htk
        go_wp2_with fail
        go_ret
        refine ⟨true, rfl, ⟨fun _ => ?_, fun _ => rfl⟩, hK⟩
        have := HT.out
        rw [List.take_length, HL.out, List.take_length] at this
        exact this
      case pos =>
        have hltB : i < B.length := by have := HL.out; omega
        obtain ⟨y, hy⟩ : ∃ y, A[i]? = some y := ⟨_, List.getElem?_eq_getElem hlt⟩
        obtain ⟨z, hz⟩ : ∃ z, B[i]? = some z := ⟨_, List.getElem?_eq_getElem hltB⟩
        obtain ⟨ag, ao, rfl, hag, c0, c1, c2, c3, c4⟩ := (hA.kept hK).at_ hy
        obtain ⟨bg, bo, rfl, hbg, d0, d1, d2, d3, d4⟩ := (hB.kept hK).at_ hz
        have HT := Lib.hid htk
        have HY := Lib.hid hy
        have HZ := Lib.hid hz
        clear htk hy hz
        cases hq : eqIn y z
        case false =>
          go_wp2_with fail
          refine wp_region_mix0 [.w, .w, .w, .l, .w, .w, .w, .l, .l] (by kernel_rfl) (by kernel_rfl) ?_
          repeat (first
            | (refine mix_w1 ?_; go_big_quiet_step (fail); refine wpQuiet_nil ?_)
            | (refine mix_l1 rfl ?_; go_big_quiet_step (fail); refine wpQuiet_nil ?_))
          refine mix_binG rfl rfl .neq 37 37 (.tmp 20) (.tmp 24) rfl (.agg (inVals y)) (.agg (inVals z)) (.bool (!eqIn y z)) rfl rfl (fun w' => guardIn_run .neq _ _ y z w') (fun w' => neqIn_run y z w') ?_
          rw [hq]
          refine mix_done ?_
          go_wp2_with fail
          go_ret
          refine ⟨false, rfl, ⟨fun h => absurd h (by decide), fun h => ?_⟩, hK.drew⟩
          exfalso
          have h1 := HY.out
          rw [h, HZ.out] at h1
          rw [← Option.some.inj h1, (eqIn_iff z z).2 rfl] at hq
          cases hq
        case true =>
          have HE := Lib.hid ((eqIn_iff y z).1 hq)
          go_wp2_with fail
          refine wp_region_mix0 [.w, .w, .w, .l, .w, .w, .w, .l, .l] (by kernel_rfl) (by kernel_rfl) ?_
          repeat (first
            | (refine mix_w1 ?_; go_big_quiet_step (fail); refine wpQuiet_nil ?_)
            | (refine mix_l1 rfl ?_; go_big_quiet_step (fail); refine wpQuiet_nil ?_))
          refine mix_binG rfl rfl .neq 37 37 (.tmp 20) (.tmp 24) rfl (.agg (inVals y)) (.agg (inVals z)) (.bool (!eqIn y z)) rfl rfl (fun w' => guardIn_run .neq _ _ y z w') (fun w' => neqIn_run y z w') ?_
          rw [hq]
          refine mix_done ?_
          go_wp2_with fail
          go_roundw
          case rel => exact ⟨i + 1, by go_num, by omega, by rw [List.take_add_one, List.take_add_one, HT.out, HY.out, HZ.out, HE.out], hK.drew⟩
          case measure => simp [intOf]; omega

end Go.Proofs.Ytdgniibolfahaaa

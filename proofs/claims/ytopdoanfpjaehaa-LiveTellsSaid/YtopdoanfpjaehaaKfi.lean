import Derived.Test.YtopdoanfpjaehaaKe
import Derived.Test.YtopdoanfpjaehaaMix
import Derived.Test.YtopdoanfpjaehaaMh
set_option linter.unusedSimpArgs false
set_option linter.unusedVariables false
namespace Go.Proofs.Ytopdoanfpjaehaa
open Go.RowKit

/-! ### equal lists -/
set_option maxHeartbeats 4000000 in
set_option maxRecDepth 100000 in
theorem ints_any (A B : List Int) (av bv : Value) (w : World) (hA : Ints w av A) (hB : Ints w bv B) (hlen : A.length ≤ 1000000) :
    Calls Try.prog 15 #[av, bv] w fun e w' => ∃ r, e = .returned (.bool r) ∧ (r = true ↔ A = B) ∧ Kept (fun _ => False) w w' := by
  obtain ⟨aA, aC, hav⟩ := Sl.any hA
  obtain ⟨bA, bC, hbv⟩ := Sl.any hB
  rw [List.length_map] at hav hbv
  subst hav
  subst hbv
  by_cases hl : A.length = B.length
  case neg =>
    have hd : ((A.length : Int) != (B.length : Int)) = true := bne_iff_ne.2 (by omega)
    have HL := Lib.hid hl
    clear hl
    go_enter Try.func15, Try.ntmps15
    go_wp2_with fail
    go_ret
    exact ⟨false, rfl, ⟨fun h => absurd h (by decide), fun h => absurd (congrArg List.length h) HL.out⟩, Kept.refl _ w⟩
  case pos =>
    have HL := Lib.hid hl
    have hBl : B.length ≤ 1000000 := by omega
    have hd : ((A.length : Int) != (B.length : Int)) = false := bne_eq_false_iff_eq.2 (by omega)
    clear hl
    go_enter Try.func15, Try.ntmps15
    go_wp2_with fail
    clear hd
    go_loopw [5] (fun iv wr => ∃ i : Nat, iv = .int .i64 i ∧ i ≤ A.length ∧ A.take i = B.take i ∧ Kept (fun _ => False) w wr) (fun iv _ => A.length - (intOf iv).toNat)
    case atStart => exact ⟨0, rfl, by omega, rfl, Kept.refl _ _⟩
    case round =>
      obtain ⟨i, rfl, hi, htk, hK⟩ := hrel
      by_cases hlt : i < A.length
      case neg =>
        obtain rfl : i = A.length := by omega
        have hnd : decide ((A.length : Int) < A.length) = false := decide_eq_false (by omega)
        have HT := Lib.hid htk
        clear htk
        go_wp2_with fail
        go_ret
        refine ⟨true, rfl, ⟨fun _ => ?_, fun _ => rfl⟩, hK⟩
        have := HT.out
        rw [List.take_length, HL.out, List.take_length] at this
        exact this
      case pos =>
        have hltB : i < B.length := by have := HL.out; omega
        obtain ⟨y, hy⟩ : ∃ y, A[i]? = some y := ⟨_, List.getElem?_eq_getElem hlt⟩
        obtain ⟨z, hz⟩ : ∃ z, B[i]? = some z := ⟨_, List.getElem?_eq_getElem hltB⟩
        obtain ⟨ag, ac, hav, hag, d0⟩ := Ints.at_ (Sl.kept hK hA (fun _ _ h => h)) hlt
        obtain ⟨bg, bc, hbv, hbg, d1⟩ := Ints.at_ (Sl.kept hK hB (fun _ _ h => h)) hltB
        rw [List.getD_eq_getElem?_getD, hy] at d0
        rw [List.getD_eq_getElem?_getD, hz] at d1
        have d0 : wr.cell? ⟨ag, i, none⟩ = some (.int .i64 y) := d0
        have d1 : wr.cell? ⟨bg, i, none⟩ = some (.int .i64 z) := d1
        obtain ⟨rfl, -, rfl⟩ := Value.slice.inj hav
        obtain ⟨rfl, -, rfl⟩ := Value.slice.inj hbv
        have HT := Lib.hid htk
        have HY := Lib.hid hy
        have HZ := Lib.hid hz
        clear htk hy hz hav hbv
        cases hq : (y != z)
        case true =>
          go_wp2_with fail
          refine wp_region_mix0 [.w, .w, .w, .l, .w, .w, .w, .l, .w] (by kernel_rfl) (by kernel_rfl) ?_
          repeat (first
            | (refine mix_w1 ?_; go_big_quiet_step (fail); refine wpQuiet_nil ?_)
            | (refine mix_l1 rfl ?_; go_big_quiet_step (fail); refine wpQuiet_nil ?_))
          refine mix_done ?_
          go_wp2_with fail
          go_ret
          refine ⟨false, rfl, ⟨fun h => absurd h (by decide), fun h => ?_⟩, hK.drew⟩
          exfalso
          have h1 := HY.out
          rw [h, HZ.out] at h1
          rw [Option.some.inj h1] at hq
          simp at hq
        case false =>
          have hyz : y = z := by simpa using hq
          have HE := Lib.hid hyz
          clear hyz
          go_wp2_with fail
          refine wp_region_mix0 [.w, .w, .w, .l, .w, .w, .w, .l, .w] (by kernel_rfl) (by kernel_rfl) ?_
          repeat (first
            | (refine mix_w1 ?_; go_big_quiet_step (fail); refine wpQuiet_nil ?_)
            | (refine mix_l1 rfl ?_; go_big_quiet_step (fail); refine wpQuiet_nil ?_))
          refine mix_done ?_
          go_wp2_with fail
          go_roundw
          case rel => exact ⟨i + 1, by go_num, by omega, by rw [List.take_add_one, List.take_add_one, HT.out, HY.out, HZ.out, HE.out], hK.drew⟩
          case measure => simp [intOf]; omega

end Go.Proofs.Ytopdoanfpjaehaa

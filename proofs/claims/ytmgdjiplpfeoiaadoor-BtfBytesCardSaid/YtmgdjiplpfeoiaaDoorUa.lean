import Derived.Test.YtmgdjiplpfeoiaaDoorTm
import Derived.Outline
set_option linter.unusedSimpArgs false
set_option linter.unusedVariables false
namespace Go.Proofs.YtmgdjiplpfeoiaaDoor
open Go.RowKit

/-! ### the document's names -/
def digB (c : UInt8) : Bool := decide (48 ≤ c.toNat) && decide (c.toNat ≤ 57)
theorem letter_first (c : UInt8) : letterB c true = (letterB c false && !digB c) := by
  unfold letterB digB
  rw [Bool.eq_iff_iff]
  simp
  omega
theorem nameB_eq {s : List UInt8} {c : UInt8} {r : List UInt8} (hs : s = c :: r) (h32 : s.length ≤ 32) : nameB s = (!digB c && s.all fun x => letterB x false) := by
  subst hs
  unfold nameB
  rw [show decide (1 ≤ (c :: r).length) = true by simp, show decide ((c :: r).length ≤ 32) = true from decide_eq_true h32, Bool.true_and, Bool.true_and]
  rw [Bool.eq_iff_iff]
  simp only [List.all_eq_true, List.mem_range, Bool.and_eq_true, Bool.not_eq_true']
  constructor
  · intro h
    have h0 := h 0 (by simp)
    simp only [List.getD_cons_zero] at h0
    rw [show ((0 : Nat) == 0) = true from rfl, letter_first, Bool.and_eq_true] at h0
    refine ⟨by simpa using h0.2, fun x hx => ?_⟩
    obtain ⟨j, hj, e⟩ := List.mem_iff_getElem.1 hx
    have hj2 := h j hj
    rw [List.getD_eq_getElem?_getD, List.getElem?_eq_getElem hj, e] at hj2
    simp only [Option.getD_some] at hj2
    cases hb : (j == 0) with
    | true => rw [hb, letter_first, Bool.and_eq_true] at hj2; exact hj2.1
    | false => rw [hb] at hj2; exact hj2
  · rintro ⟨h1, h2⟩ j hj
    have hx := h2 _ (List.getElem_mem hj)
    rw [List.getD_eq_getElem?_getD, List.getElem?_eq_getElem hj]
    simp only [Option.getD_some]
    cases hb : (j == 0) with
    | true =>
      have : j = 0 := by simpa using hb
      subst this
      rw [letter_first, Bool.and_eq_true]
      exact ⟨hx, by simpa using h1⟩
    | false => exact hx

set_option maxHeartbeats 2000000 in
theorem refname_any (s : List UInt8) (w : World) (hs : s.length ≤ maxLen) :
    Calls Tryd.prog 71 #[nV s] w fun e w' => e = .returned (.bool (nameB s)) ∧ w = w' := by
  unfold maxLen at hs
  have hsz := nV_size s
  by_cases h1 : s.length < 1
  · rw [nameB_short (.inl h1)]
    go_enter Tryd.func71, Tryd.ntmps71
    go_wp2
    go_ret
    exact ⟨rfl, rfl⟩
  · by_cases h2 : 32 < s.length
    · rw [nameB_short (.inr h2)]
      go_enter Tryd.func71, Tryd.ntmps71
      go_wp2
      go_ret
      exact ⟨rfl, rfl⟩
    · obtain ⟨c, r, hcr⟩ : ∃ c r, s = c :: r := by
        cases s with
        | nil => simp at h1
        | cons c r => exact ⟨c, r, rfl⟩
      have hN := nameB_eq hcr (by omega)
      have hc0 : (ByteArray.mk s.toArray)[0]'(by rw [hsz]; omega) = c := by subst hcr; rfl
      have hlt : ∀ x : UInt8, letterB x false = true → (97 ≤ x.toNat ∧ x.toNat ≤ 122) ∨ (65 ≤ x.toNat ∧ x.toNat ≤ 90) ∨ x.toNat = 95 ∨ (48 ≤ x.toNat ∧ x.toNat ≤ 57) := fun x h => by
        unfold letterB at h
        simp at h
        omega
      have hle : ∀ x : UInt8, letterB x false = false → x.toNat < 48 ∨ (58 ≤ x.toNat ∧ x.toNat ≤ 64) ∨ (91 ≤ x.toNat ∧ x.toNat ≤ 94) ∨ x.toNat = 96 ∨ 123 ≤ x.toNat := fun x h => by
        unfold letterB at h
        simp at h
        omega
      have HLT := Lib.hid hlt
      have HLE := Lib.hid hle
      have HN := Lib.hid hN
      have HCR := Lib.hid hcr
      clear hN hcr hlt hle
      cases hdg : digB c with
      | true =>
        have hN2 : nameB s = false := by rw [HN.out, hdg]; rfl
        unfold digB at hdg
        simp only [Bool.and_eq_true, decide_eq_true_eq] at hdg
        obtain ⟨d1, d2⟩ := hdg
        go_enter Tryd.func71, Tryd.ntmps71
        go_wp2
        go_ret
        exact ⟨by rw [hN2]; rfl, rfl⟩
      | false =>
        have hN2 : nameB s = s.all fun x => letterB x false := by rw [HN.out, hdg]; rfl
        have HN2 := Lib.hid hN2
        have hd2 : c.toNat < 48 ∨ 57 < c.toNat := by
          unfold digB at hdg
          simp at hdg
          omega
        clear hdg hN2
        rcases hd2 with d1 | d1
        all_goals
          go_enter Tryd.func71, Tryd.ntmps71
          go_wp2
          clear hc0
          go_loopw [3] (fun iv wr => ∃ i : Nat, iv = .int .i64 i ∧ i ≤ s.length ∧ ((s.take i).all fun x => letterB x false) = true ∧ w = wr) (fun iv _ => s.length - (intOf iv).toNat)
          case atStart => exact ⟨0, rfl, Nat.zero_le _, by simp, rfl⟩
          case round =>
            obtain ⟨i, rfl, hi, hall, rfl⟩ := hrel
            by_cases hlt : i < s.length
            case neg =>
              obtain rfl : i = s.length := by omega
              rw [List.take_length] at hall
              go_wp2
              go_ret
              exact ⟨by rw [HN2.out, hall]; rfl, rfl⟩
            case pos =>
              obtain ⟨x, hx⟩ : ∃ x, s[i]? = some x := ⟨_, List.getElem?_eq_getElem hlt⟩
              have hcx : (ByteArray.mk s.toArray)[i]'(by rw [hsz]; exact hlt) = x := by
                have := List.getElem?_eq_some_iff.1 hx
                exact this.2
              have hnx : ((s.take (i + 1)).all fun x => letterB x false) = letterB x false := by
                rw [List.take_add_one, hx, List.all_append, hall]
                simp
              have HAL := Lib.hid hall
              have HX := Lib.hid hx
              clear hall hx
              cases hl : letterB x false with
              | true =>
                rw [hl] at hnx
                have HNX := Lib.hid hnx
                have hr := HLT.out x hl
                clear hl hnx
                rcases hr with ⟨r1, r2⟩ | ⟨r1, r2⟩ | r1 | ⟨r1, r2⟩
                all_goals
                  go_wp2_with fail
                  all_goals exact ⟨⟨i + 1, by go_num, by omega, HNX.out, trivial⟩, by simp [intOf]; omega⟩
              | false =>
                have hN : nameB s = false := by
                  rw [HN2.out, List.all_eq_false]
                  exact ⟨x, List.mem_of_getElem? HX.out, by rw [hl]; simp⟩
                have HNF := Lib.hid hN
                have hr := HLE.out x hl
                clear hl hnx hN
                have h95 : ((x.toNat : Int) == 95) = false := by simp; omega
                rcases hr with r1 | ⟨r1, r2⟩ | ⟨r1, r2⟩ | r1 | r1
                all_goals
                  go_wp2_with fail
                  all_goals first | (go_ret; exact ⟨by rw [HNF.out]; rfl, rfl⟩) | (exfalso; simp at *; omega) | trace_state

end Go.Proofs.YtmgdjiplpfeoiaaDoor

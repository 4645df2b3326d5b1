import Derived.Test.YtdchmelgaljpfaaGreatMem
set_option linter.unusedSimpArgs false
set_option linter.unusedVariables false
namespace Go.Proofs.YtdchmelgaljpfaaGreat

/-! ### bytes in the other order, in plain -/
def turnN : Nat → Nat → Nat
  | 0, _ => 0
  | k + 1, a => 256 * turnN k a + a / 256 ^ k % 256
theorem turn_bit (a : Nat) : ∀ (k j : Nat), (turnN k a).testBit j = (decide (j < 8 * k) && a.testBit (8 * (k - 1 - j / 8) + j % 8))
  | 0, j => by simp [turnN]
  | k + 1, j => by
    have hb : a / 256 ^ k % 256 < 2 ^ 8 := by omega
    show (256 * turnN k a + a / 256 ^ k % 256).testBit j = _
    rw [show 256 * turnN k a = 2 ^ 8 * turnN k a from rfl, Nat.testBit_two_pow_mul_add _ hb]
    by_cases h8 : j < 8
    · rw [if_pos h8, show (256 : Nat) = 2 ^ 8 from rfl, ← Nat.pow_mul, Nat.testBit_mod_two_pow, Nat.testBit_div_two_pow]
      rw [show j / 8 = 0 by omega, show j % 8 = j by omega, show k + 1 - 1 - 0 = k by omega, show j + 8 * k = 8 * k + j by omega]
      simp [h8, show j < 8 * (k + 1) by omega]
    · rw [if_neg h8, turn_bit a k (j - 8)]
      rw [show 8 * (k - 1 - (j - 8) / 8) + (j - 8) % 8 = 8 * (k + 1 - 1 - j / 8) + j % 8 by omega]
      have : decide (j - 8 < 8 * k) = decide (j < 8 * (k + 1)) := by
        apply decide_eq_decide.2
        omega
      rw [this]
theorem turn_lt (a : Nat) : ∀ k, turnN k a < 256 ^ k
  | 0 => by simp [turnN]
  | k + 1 => by
    have := turn_lt a k
    have h2 : a / 256 ^ k % 256 < 256 := Nat.mod_lt _ (by omega)
    show 256 * turnN k a + a / 256 ^ k % 256 < 256 ^ (k + 1)
    rw [Nat.pow_succ]
    omega

theorem m8_bit : ∀ i, i < 64 → Nat.testBit 71777214294589695 i = decide (i % 16 < 8) := by decide +kernel
theorem m16_bit : ∀ i, i < 64 → Nat.testBit 281470681808895 i = decide (i % 32 < 16) := by decide +kernel
theorem m8s_bit : ∀ i, i < 64 → Nat.testBit 16711935 i = (decide (i < 32) && decide (i % 16 < 8)) := by decide +kernel

set_option maxRecDepth 100000 in
set_option maxHeartbeats 8000000 in
theorem rev16_eq (a : Nat) (h : a < 2 ^ 16) : ((a) >>> 8 ||| ((a) <<< 8) % 2 ^ 16) = turnN 2 a := by
  have ha : ∀ i, 16 ≤ i → a.testBit i = false := fun i hi => Nat.testBit_lt_two_pow (Nat.lt_of_lt_of_le h (Nat.pow_le_pow_right (by omega) hi))
  apply Nat.eq_of_testBit_eq
  intro j
  rw [turn_bit]
  by_cases hj : j < 16
  · have hh : j = 0 ∨ j = 1 ∨ j = 2 ∨ j = 3 ∨ j = 4 ∨ j = 5 ∨ j = 6 ∨ j = 7 ∨ j = 8 ∨ j = 9 ∨ j = 10 ∨ j = 11 ∨ j = 12 ∨ j = 13 ∨ j = 14 ∨ j = 15 := by omega
    clear hj
    rcases hh with rfl | rfl | rfl | rfl | rfl | rfl | rfl | rfl | rfl | rfl | rfl | rfl | rfl | rfl | rfl | rfl
    all_goals
      simp only [Nat.testBit_or, Nat.testBit_and, Nat.testBit_shiftRight, Nat.testBit_shiftLeft, Nat.testBit_mod_two_pow]
      simp [ha, m8_bit, m16_bit, m8s_bit]
  · have hlt : ((a) >>> 8 ||| ((a) <<< 8) % 2 ^ 16) < 2 ^ 16 := (Nat.or_lt_two_pow (Nat.lt_of_le_of_lt (Nat.shiftRight_le _ _) h) (Nat.mod_lt _ (by decide)))
    rw [Nat.testBit_lt_two_pow (Nat.lt_of_lt_of_le hlt (Nat.pow_le_pow_right (by omega) (by omega)))]
    simp
    intro hc
    omega

set_option maxRecDepth 100000 in
set_option maxHeartbeats 8000000 in
theorem rev32_eq (a : Nat) (h : a < 2 ^ 32) : ((((a) >>> 8 &&& 16711935 ||| (((a) &&& 16711935) <<< 8) % 2 ^ 32)) >>> 16 ||| ((((a) >>> 8 &&& 16711935 ||| (((a) &&& 16711935) <<< 8) % 2 ^ 32)) <<< 16) % 2 ^ 32) = turnN 4 a := by
  have ha : ∀ i, 32 ≤ i → a.testBit i = false := fun i hi => Nat.testBit_lt_two_pow (Nat.lt_of_lt_of_le h (Nat.pow_le_pow_right (by omega) hi))
  apply Nat.eq_of_testBit_eq
  intro j
  rw [turn_bit]
  by_cases hj : j < 32
  · have hh : j = 0 ∨ j = 1 ∨ j = 2 ∨ j = 3 ∨ j = 4 ∨ j = 5 ∨ j = 6 ∨ j = 7 ∨ j = 8 ∨ j = 9 ∨ j = 10 ∨ j = 11 ∨ j = 12 ∨ j = 13 ∨ j = 14 ∨ j = 15 ∨ j = 16 ∨ j = 17 ∨ j = 18 ∨ j = 19 ∨ j = 20 ∨ j = 21 ∨ j = 22 ∨ j = 23 ∨ j = 24 ∨ j = 25 ∨ j = 26 ∨ j = 27 ∨ j = 28 ∨ j = 29 ∨ j = 30 ∨ j = 31 := by omega
    clear hj
    rcases hh with rfl | rfl | rfl | rfl | rfl | rfl | rfl | rfl | rfl | rfl | rfl | rfl | rfl | rfl | rfl | rfl | rfl | rfl | rfl | rfl | rfl | rfl | rfl | rfl | rfl | rfl | rfl | rfl | rfl | rfl | rfl | rfl
    all_goals
      simp only [Nat.testBit_or, Nat.testBit_and, Nat.testBit_shiftRight, Nat.testBit_shiftLeft, Nat.testBit_mod_two_pow]
      simp [ha, m8_bit, m16_bit, m8s_bit]
  · have hlt : ((((a) >>> 8 &&& 16711935 ||| (((a) &&& 16711935) <<< 8) % 2 ^ 32)) >>> 16 ||| ((((a) >>> 8 &&& 16711935 ||| (((a) &&& 16711935) <<< 8) % 2 ^ 32)) <<< 16) % 2 ^ 32) < 2 ^ 32 := (Nat.or_lt_two_pow (Nat.lt_of_le_of_lt (Nat.shiftRight_le _ _) (Nat.or_lt_two_pow (Nat.lt_of_le_of_lt Nat.and_le_left (Nat.lt_of_le_of_lt (Nat.shiftRight_le _ _) h)) (Nat.mod_lt _ (by decide)))) (Nat.mod_lt _ (by decide)))
    rw [Nat.testBit_lt_two_pow (Nat.lt_of_lt_of_le hlt (Nat.pow_le_pow_right (by omega) (by omega)))]
    simp
    intro hc
    omega

set_option maxRecDepth 100000 in
set_option maxHeartbeats 8000000 in
theorem rev64_eq (a : Nat) (h : a < 2 ^ 64) : ((((((a) >>> 8 &&& 71777214294589695 ||| (((a) &&& 71777214294589695) <<< 8) % 2 ^ 64)) >>> 16 &&& 281470681808895 ||| (((((a) >>> 8 &&& 71777214294589695 ||| (((a) &&& 71777214294589695) <<< 8) % 2 ^ 64)) &&& 281470681808895) <<< 16) % 2 ^ 64)) >>> 32 ||| ((((((a) >>> 8 &&& 71777214294589695 ||| (((a) &&& 71777214294589695) <<< 8) % 2 ^ 64)) >>> 16 &&& 281470681808895 ||| (((((a) >>> 8 &&& 71777214294589695 ||| (((a) &&& 71777214294589695) <<< 8) % 2 ^ 64)) &&& 281470681808895) <<< 16) % 2 ^ 64)) <<< 32) % 2 ^ 64) = turnN 8 a := by
  have ha : ∀ i, 64 ≤ i → a.testBit i = false := fun i hi => Nat.testBit_lt_two_pow (Nat.lt_of_lt_of_le h (Nat.pow_le_pow_right (by omega) hi))
  apply Nat.eq_of_testBit_eq
  intro j
  rw [turn_bit]
  by_cases hj : j < 64
  · have hh : j = 0 ∨ j = 1 ∨ j = 2 ∨ j = 3 ∨ j = 4 ∨ j = 5 ∨ j = 6 ∨ j = 7 ∨ j = 8 ∨ j = 9 ∨ j = 10 ∨ j = 11 ∨ j = 12 ∨ j = 13 ∨ j = 14 ∨ j = 15 ∨ j = 16 ∨ j = 17 ∨ j = 18 ∨ j = 19 ∨ j = 20 ∨ j = 21 ∨ j = 22 ∨ j = 23 ∨ j = 24 ∨ j = 25 ∨ j = 26 ∨ j = 27 ∨ j = 28 ∨ j = 29 ∨ j = 30 ∨ j = 31 ∨ j = 32 ∨ j = 33 ∨ j = 34 ∨ j = 35 ∨ j = 36 ∨ j = 37 ∨ j = 38 ∨ j = 39 ∨ j = 40 ∨ j = 41 ∨ j = 42 ∨ j = 43 ∨ j = 44 ∨ j = 45 ∨ j = 46 ∨ j = 47 ∨ j = 48 ∨ j = 49 ∨ j = 50 ∨ j = 51 ∨ j = 52 ∨ j = 53 ∨ j = 54 ∨ j = 55 ∨ j = 56 ∨ j = 57 ∨ j = 58 ∨ j = 59 ∨ j = 60 ∨ j = 61 ∨ j = 62 ∨ j = 63 := by omega
    clear hj
    rcases hh with rfl | rfl | rfl | rfl | rfl | rfl | rfl | rfl | rfl | rfl | rfl | rfl | rfl | rfl | rfl | rfl | rfl | rfl | rfl | rfl | rfl | rfl | rfl | rfl | rfl | rfl | rfl | rfl | rfl | rfl | rfl | rfl | rfl | rfl | rfl | rfl | rfl | rfl | rfl | rfl | rfl | rfl | rfl | rfl | rfl | rfl | rfl | rfl | rfl | rfl | rfl | rfl | rfl | rfl | rfl | rfl | rfl | rfl | rfl | rfl | rfl | rfl | rfl | rfl
    all_goals
      simp only [Nat.testBit_or, Nat.testBit_and, Nat.testBit_shiftRight, Nat.testBit_shiftLeft, Nat.testBit_mod_two_pow]
      simp [ha, m8_bit, m16_bit, m8s_bit]
  · have hlt : ((((((a) >>> 8 &&& 71777214294589695 ||| (((a) &&& 71777214294589695) <<< 8) % 2 ^ 64)) >>> 16 &&& 281470681808895 ||| (((((a) >>> 8 &&& 71777214294589695 ||| (((a) &&& 71777214294589695) <<< 8) % 2 ^ 64)) &&& 281470681808895) <<< 16) % 2 ^ 64)) >>> 32 ||| ((((((a) >>> 8 &&& 71777214294589695 ||| (((a) &&& 71777214294589695) <<< 8) % 2 ^ 64)) >>> 16 &&& 281470681808895 ||| (((((a) >>> 8 &&& 71777214294589695 ||| (((a) &&& 71777214294589695) <<< 8) % 2 ^ 64)) &&& 281470681808895) <<< 16) % 2 ^ 64)) <<< 32) % 2 ^ 64) < 2 ^ 64 := (Nat.or_lt_two_pow (Nat.lt_of_le_of_lt (Nat.shiftRight_le _ _) (Nat.or_lt_two_pow (Nat.lt_of_le_of_lt Nat.and_le_left (Nat.lt_of_le_of_lt (Nat.shiftRight_le _ _) (Nat.or_lt_two_pow (Nat.lt_of_le_of_lt Nat.and_le_left (Nat.lt_of_le_of_lt (Nat.shiftRight_le _ _) h)) (Nat.mod_lt _ (by decide))))) (Nat.mod_lt _ (by decide)))) (Nat.mod_lt _ (by decide)))
    rw [Nat.testBit_lt_two_pow (Nat.lt_of_lt_of_le hlt (Nat.pow_le_pow_right (by omega) (by omega)))]
    simp
    intro hc
    omega

end Go.Proofs.YtdchmelgaljpfaaGreat

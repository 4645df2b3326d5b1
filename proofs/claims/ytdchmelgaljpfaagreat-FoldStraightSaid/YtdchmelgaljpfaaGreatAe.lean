import Derived.Test.YtdchmelgaljpfaaGreatAc
set_option linter.unusedSimpArgs false
set_option linter.unusedVariables false
namespace Go.Proofs.YtdchmelgaljpfaaGreat
open Go.RowKit

theorem shr_8 (p : Nat) : (p : Int) / (256 : Int) = ((p >>> 8 : Nat) : Int) := by rw [Nat.shiftRight_eq_div_pow]; omega
theorem shl_8_16 (p : Nat) : (p : Int) * (256 : Int) % (65536 : Int) = (((p <<< 8) % 2 ^ 16 : Nat) : Int) := by rw [Nat.shiftLeft_eq]; omega
theorem shl_8_32 (p : Nat) : (p : Int) * (256 : Int) % (4294967296 : Int) = (((p <<< 8) % 2 ^ 32 : Nat) : Int) := by rw [Nat.shiftLeft_eq]; omega
theorem shl_8_64 (p : Nat) : (p : Int) * (256 : Int) % (18446744073709551616 : Int) = (((p <<< 8) % 2 ^ 64 : Nat) : Int) := by rw [Nat.shiftLeft_eq]; omega
theorem shr_16 (p : Nat) : (p : Int) / (65536 : Int) = ((p >>> 16 : Nat) : Int) := by rw [Nat.shiftRight_eq_div_pow]; omega
theorem shl_16_32 (p : Nat) : (p : Int) * (65536 : Int) % (4294967296 : Int) = (((p <<< 16) % 2 ^ 32 : Nat) : Int) := by rw [Nat.shiftLeft_eq]; omega
theorem shl_16_64 (p : Nat) : (p : Int) * (65536 : Int) % (18446744073709551616 : Int) = (((p <<< 16) % 2 ^ 64 : Nat) : Int) := by rw [Nat.shiftLeft_eq]; omega
theorem shr_32 (p : Nat) : (p : Int) / (4294967296 : Int) = ((p >>> 32 : Nat) : Int) := by rw [Nat.shiftRight_eq_div_pow]; omega
theorem shl_32_64 (p : Nat) : (p : Int) * (4294967296 : Int) % (18446744073709551616 : Int) = (((p <<< 32) % 2 ^ 64 : Nat) : Int) := by rw [Nat.shiftLeft_eq]; omega
theorem wrapU16 (n : Int) : IntKind.u16.wrap n = n % 65536 := by
  simp [IntKind.wrap, IntKind.signed, IntKind.bits]
theorem wrapU32 (n : Int) : IntKind.u32.wrap n = n % 4294967296 := by
  simp [IntKind.wrap, IntKind.signed, IntKind.bits]
set_option maxHeartbeats 4000000 in
set_option maxRecDepth 100000 in
theorem rev16_any (a : Nat) (w : World) (ha : a < 65536) : Calls Tryz.prog 120 #[.int .u16 a] w fun e w' => e = .returned (.int .u16 ((turnN 2 a : Nat) : Int)) ∧ w = w' := by
  have hf : ∀ z, z = ((turnN 2 a : Nat) : Int) → Ending.returned (.int .u16 z) = Ending.returned (.int .u16 ((turnN 2 a : Nat) : Int)) := fun z h => by rw [h]
  go_enter Tryz.func120, Tryz.ntmps120
  go_wp2_with fail
  go_ret
  refine ⟨hf _ ?_, rfl⟩
  rw [← rev16_eq a ha]
  try simp only [wrapU, wrapU16, wrapU32]
  rw [shr_8, shl_8_16]
  rw [u16_or_nat ((a) >>> 8) (((a) <<< 8) % 2 ^ 16) (Nat.lt_of_le_of_lt (Nat.shiftRight_le _ _) ha) (Nat.mod_lt _ (by decide))]
set_option maxHeartbeats 4000000 in
set_option maxRecDepth 100000 in
theorem rev32_any (a : Nat) (w : World) (ha : a < 4294967296) : Calls Tryz.prog 121 #[.int .u32 a] w fun e w' => e = .returned (.int .u32 ((turnN 4 a : Nat) : Int)) ∧ w = w' := by
  have hf : ∀ z, z = ((turnN 4 a : Nat) : Int) → Ending.returned (.int .u32 z) = Ending.returned (.int .u32 ((turnN 4 a : Nat) : Int)) := fun z h => by rw [h]
  go_enter Tryz.func121, Tryz.ntmps121
  go_wp2_with fail
  go_ret
  refine ⟨hf _ ?_, rfl⟩
  have hm1 : ∀ x : Nat, x < 4294967296 → bits .and .u32 (x : Int) (16711935 : Int) = ((x &&& 16711935 : Nat) : Int) := fun x hx => u32_and_nat x 16711935 hx (by decide)
  rw [← rev32_eq a ha]
  try simp only [wrapU, wrapU16, wrapU32]
  rw [shr_8, hm1 ((a) >>> 8) (Nat.lt_of_le_of_lt (Nat.shiftRight_le _ _) ha), hm1 (a) ha, shl_8_32]
  rw [u32_or_nat ((a) >>> 8 &&& 16711935) ((((a) &&& 16711935) <<< 8) % 2 ^ 32) (Nat.lt_of_le_of_lt Nat.and_le_left (Nat.lt_of_le_of_lt (Nat.shiftRight_le _ _) ha)) (Nat.mod_lt _ (by decide))]
  rw [shr_16, shl_16_32]
  rw [u32_or_nat ((((a) >>> 8 &&& 16711935) ||| ((((a) &&& 16711935) <<< 8) % 2 ^ 32)) >>> 16) (((((a) >>> 8 &&& 16711935) ||| ((((a) &&& 16711935) <<< 8) % 2 ^ 32)) <<< 16) % 2 ^ 32) (Nat.lt_of_le_of_lt (Nat.shiftRight_le _ _) (Nat.or_lt_two_pow (n := 32) (Nat.lt_of_le_of_lt Nat.and_le_left (Nat.lt_of_le_of_lt (Nat.shiftRight_le _ _) ha)) (Nat.mod_lt _ (by decide)))) (Nat.mod_lt _ (by decide))]
set_option maxHeartbeats 4000000 in
set_option maxRecDepth 100000 in
theorem rev64_any (a : Nat) (w : World) (ha : a < 18446744073709551616) : Calls Tryz.prog 122 #[.int .u64 a] w fun e w' => e = .returned (.int .u64 ((turnN 8 a : Nat) : Int)) ∧ w = w' := by
  have hf : ∀ z, z = ((turnN 8 a : Nat) : Int) → Ending.returned (.int .u64 z) = Ending.returned (.int .u64 ((turnN 8 a : Nat) : Int)) := fun z h => by rw [h]
  go_enter Tryz.func122, Tryz.ntmps122
  go_wp2_with fail
  go_ret
  refine ⟨hf _ ?_, rfl⟩
  have hm1 : ∀ x : Nat, x < 18446744073709551616 → bits .and .u64 (x : Int) (71777214294589695 : Int) = ((x &&& 71777214294589695 : Nat) : Int) := fun x hx => u64_and_nat x 71777214294589695 hx (by decide)
  have hm2 : ∀ x : Nat, x < 18446744073709551616 → bits .and .u64 (x : Int) (281470681808895 : Int) = ((x &&& 281470681808895 : Nat) : Int) := fun x hx => u64_and_nat x 281470681808895 hx (by decide)
  rw [← rev64_eq a ha]
  try simp only [wrapU, wrapU16, wrapU32]
  rw [shr_8, hm1 ((a) >>> 8) (Nat.lt_of_le_of_lt (Nat.shiftRight_le _ _) ha), hm1 (a) ha, shl_8_64]
  rw [u64_or_nat ((a) >>> 8 &&& 71777214294589695) ((((a) &&& 71777214294589695) <<< 8) % 2 ^ 64) (Nat.lt_of_le_of_lt Nat.and_le_left (Nat.lt_of_le_of_lt (Nat.shiftRight_le _ _) ha)) (Nat.mod_lt _ (by decide))]
  rw [shr_16, hm2 ((((a) >>> 8 &&& 71777214294589695) ||| ((((a) &&& 71777214294589695) <<< 8) % 2 ^ 64)) >>> 16) (Nat.lt_of_le_of_lt (Nat.shiftRight_le _ _) (Nat.or_lt_two_pow (n := 64) (Nat.lt_of_le_of_lt Nat.and_le_left (Nat.lt_of_le_of_lt (Nat.shiftRight_le _ _) ha)) (Nat.mod_lt _ (by decide)))), hm2 (((a) >>> 8 &&& 71777214294589695) ||| ((((a) &&& 71777214294589695) <<< 8) % 2 ^ 64)) (Nat.or_lt_two_pow (n := 64) (Nat.lt_of_le_of_lt Nat.and_le_left (Nat.lt_of_le_of_lt (Nat.shiftRight_le _ _) ha)) (Nat.mod_lt _ (by decide))), shl_16_64]
  rw [u64_or_nat ((((a) >>> 8 &&& 71777214294589695) ||| ((((a) &&& 71777214294589695) <<< 8) % 2 ^ 64)) >>> 16 &&& 281470681808895) ((((((a) >>> 8 &&& 71777214294589695) ||| ((((a) &&& 71777214294589695) <<< 8) % 2 ^ 64)) &&& 281470681808895) <<< 16) % 2 ^ 64) (Nat.lt_of_le_of_lt Nat.and_le_left (Nat.lt_of_le_of_lt (Nat.shiftRight_le _ _) (Nat.or_lt_two_pow (n := 64) (Nat.lt_of_le_of_lt Nat.and_le_left (Nat.lt_of_le_of_lt (Nat.shiftRight_le _ _) ha)) (Nat.mod_lt _ (by decide))))) (Nat.mod_lt _ (by decide))]
  rw [shr_32, shl_32_64]
  rw [u64_or_nat ((((((a) >>> 8 &&& 71777214294589695) ||| ((((a) &&& 71777214294589695) <<< 8) % 2 ^ 64)) >>> 16 &&& 281470681808895) ||| ((((((a) >>> 8 &&& 71777214294589695) ||| ((((a) &&& 71777214294589695) <<< 8) % 2 ^ 64)) &&& 281470681808895) <<< 16) % 2 ^ 64)) >>> 32) (((((((a) >>> 8 &&& 71777214294589695) ||| ((((a) &&& 71777214294589695) <<< 8) % 2 ^ 64)) >>> 16 &&& 281470681808895) ||| ((((((a) >>> 8 &&& 71777214294589695) ||| ((((a) &&& 71777214294589695) <<< 8) % 2 ^ 64)) &&& 281470681808895) <<< 16) % 2 ^ 64)) <<< 32) % 2 ^ 64) (Nat.lt_of_le_of_lt (Nat.shiftRight_le _ _) (Nat.or_lt_two_pow (n := 64) (Nat.lt_of_le_of_lt Nat.and_le_left (Nat.lt_of_le_of_lt (Nat.shiftRight_le _ _) (Nat.or_lt_two_pow (n := 64) (Nat.lt_of_le_of_lt Nat.and_le_left (Nat.lt_of_le_of_lt (Nat.shiftRight_le _ _) ha)) (Nat.mod_lt _ (by decide))))) (Nat.mod_lt _ (by decide)))) (Nat.mod_lt _ (by decide))]
theorem turn_mod (a k : Nat) : turnN k (a % 256 ^ k) = turnN k a := by
  apply Nat.eq_of_testBit_eq
  intro j
  rw [turn_bit, turn_bit]
  by_cases h : j < 8 * k
  · rw [show (256 : Nat) ^ k = 2 ^ (8 * k) by rw [show (256 : Nat) = 2 ^ 8 from rfl, ← Nat.pow_mul], Nat.testBit_mod_two_pow]
    have : 8 * (k - 1 - j / 8) + j % 8 < 8 * k := by omega
    simp [this]
  · simp [h]
theorem turn_turn (a k : Nat) : turnN k (turnN k a) = a % 256 ^ k := by
  apply Nat.eq_of_testBit_eq
  intro j
  rw [turn_bit, turn_bit, show (256 : Nat) ^ k = 2 ^ (8 * k) by rw [show (256 : Nat) = 2 ^ 8 from rfl, ← Nat.pow_mul], Nat.testBit_mod_two_pow]
  by_cases h : j < 8 * k
  · have h1 : 8 * (k - 1 - j / 8) + j % 8 < 8 * k := by omega
    have h2 : 8 * (k - 1 - (8 * (k - 1 - j / 8) + j % 8) / 8) + (8 * (k - 1 - j / 8) + j % 8) % 8 = j := by omega
    rw [h2]
    simp [h, h1]
  · simp [h]
def signN (n : Int) : Nat := (n % 18446744073709551616).toNat
theorem signN_lt (n : Int) : signN n < 18446744073709551616 := by unfold signN; omega
set_option maxHeartbeats 1000000 in
set_option maxRecDepth 100000 in
theorem asign_any (n : Int) (w : World) (h : -2147483648 ≤ n ∧ n ≤ 2147483647) : Calls Tryz.prog 25 #[.int .i32 n] w fun e w' => e = .returned (.int .u64 ((signN n : Nat) : Int)) ∧ w = w' := by
  have hf : ∀ z : Int, z = ((signN n : Nat) : Int) → Ending.returned (.int .u64 z) = Ending.returned (.int .u64 ((signN n : Nat) : Int)) := fun z h => by rw [h]
  go_enter Tryz.func25, Tryz.ntmps25
  go_wp2_with fail
  go_ret
  refine ⟨hf _ ?_, rfl⟩
  unfold signN
  try simp only [wrapU]
  omega
set_option maxHeartbeats 1000000 in
set_option maxRecDepth 100000 in
theorem aturn16_any (a : Nat) (w : World) (ha : a < 18446744073709551616) : Calls Tryz.prog 68 #[.int .i64 16, .int .u64 a] w fun e w' => e = .returned (.tuple #[.int .u64 ((turnN 2 a : Nat) : Int), .bool true]) ∧ w = w' := by
  have hR0 := fun W => rev16_any (a % 65536) W (by omega)
  have hm := turn_mod a 2
  have hl := turn_lt a 2
  rw [show (256 : Nat) ^ 2 = 65536 from (by simp)] at hm hl
  have e0 : ((a % 65536 : Nat) : Int) = (a : Int) % 65536 := by omega
  rw [hm] at hR0
  generalize turnN 2 a = t at *
  have hR1 : ∀ W, _ := hR0
  simp only [e0] at hR1
  have HR := Lib.hid hR1
  clear hR0 hR1 e0 hm
  go_enter Tryz.func68, Tryz.ntmps68
  go_wp2_with fail
  refine (HR.out _).mono ?_
  rintro e w1 ⟨rfl, rfl⟩
  go_wp2_with fail
  go_ret2
  exact ⟨rfl, rfl⟩
set_option maxHeartbeats 1000000 in
set_option maxRecDepth 100000 in
theorem aswap16_any (big : Bool) (a : Nat) (w : World) (ha : a < 18446744073709551616) : Calls Tryz.prog 69 #[.int .i64 16, .bool big, .int .u64 a] w fun e w' => e = .returned (.tuple #[.int .u64 (((if big then turnN 2 a else a % 65536) : Nat) : Int), .bool true]) ∧ w = w' := by
  have H1 := Lib.hid (fun W => aturn16_any a W ha)
  have hl := turn_lt a 2
  rw [show (256 : Nat) ^ 2 = 65536 from (by simp)] at hl
  have H2 := Lib.hid (fun W => aturn16_any (turnN 2 a) W (by omega))
  rw [turn_turn] at H2
  rw [show (256 : Nat) ^ 2 = 65536 from (by simp)] at H2
  generalize turnN 2 a = t at *
  cases big
  · go_enter Tryz.func69, Tryz.ntmps69
    go_wp2_with fail
    refine (H1.out _).mono ?_
    rintro e w1 ⟨rfl, rfl⟩
    go_wp2_with fail
    refine (H2.out _).mono ?_
    rintro e w1 ⟨rfl, rfl⟩
    go_wp2_with fail
    go_ret2
    exact ⟨rfl, rfl⟩
  · go_enter Tryz.func69, Tryz.ntmps69
    go_wp2_with fail
    refine (H1.out _).mono ?_
    rintro e w1 ⟨rfl, rfl⟩
    go_wp2_with fail
    go_ret2
    exact ⟨rfl, rfl⟩
set_option maxHeartbeats 1000000 in
set_option maxRecDepth 100000 in
theorem aturn32_any (a : Nat) (w : World) (ha : a < 18446744073709551616) : Calls Tryz.prog 68 #[.int .i64 32, .int .u64 a] w fun e w' => e = .returned (.tuple #[.int .u64 ((turnN 4 a : Nat) : Int), .bool true]) ∧ w = w' := by
  have hR0 := fun W => rev32_any (a % 4294967296) W (by omega)
  have hm := turn_mod a 4
  have hl := turn_lt a 4
  rw [show (256 : Nat) ^ 4 = 4294967296 from (by simp)] at hm hl
  have e0 : ((a % 4294967296 : Nat) : Int) = (a : Int) % 4294967296 := by omega
  rw [hm] at hR0
  generalize turnN 4 a = t at *
  have hR1 : ∀ W, _ := hR0
  simp only [e0] at hR1
  have HR := Lib.hid hR1
  clear hR0 hR1 e0 hm
  go_enter Tryz.func68, Tryz.ntmps68
  go_wp2_with fail
  refine (HR.out _).mono ?_
  rintro e w1 ⟨rfl, rfl⟩
  go_wp2_with fail
  go_ret2
  exact ⟨rfl, rfl⟩
set_option maxHeartbeats 1000000 in
set_option maxRecDepth 100000 in
theorem aswap32_any (big : Bool) (a : Nat) (w : World) (ha : a < 18446744073709551616) : Calls Tryz.prog 69 #[.int .i64 32, .bool big, .int .u64 a] w fun e w' => e = .returned (.tuple #[.int .u64 (((if big then turnN 4 a else a % 4294967296) : Nat) : Int), .bool true]) ∧ w = w' := by
  have H1 := Lib.hid (fun W => aturn32_any a W ha)
  have hl := turn_lt a 4
  rw [show (256 : Nat) ^ 4 = 4294967296 from (by simp)] at hl
  have H2 := Lib.hid (fun W => aturn32_any (turnN 4 a) W (by omega))
  rw [turn_turn] at H2
  rw [show (256 : Nat) ^ 4 = 4294967296 from (by simp)] at H2
  generalize turnN 4 a = t at *
  cases big
  · go_enter Tryz.func69, Tryz.ntmps69
    go_wp2_with fail
    refine (H1.out _).mono ?_
    rintro e w1 ⟨rfl, rfl⟩
    go_wp2_with fail
    refine (H2.out _).mono ?_
    rintro e w1 ⟨rfl, rfl⟩
    go_wp2_with fail
    go_ret2
    exact ⟨rfl, rfl⟩
  · go_enter Tryz.func69, Tryz.ntmps69
    go_wp2_with fail
    refine (H1.out _).mono ?_
    rintro e w1 ⟨rfl, rfl⟩
    go_wp2_with fail
    go_ret2
    exact ⟨rfl, rfl⟩
set_option maxHeartbeats 1000000 in
set_option maxRecDepth 100000 in
theorem aturn64_any (a : Nat) (w : World) (ha : a < 18446744073709551616) : Calls Tryz.prog 68 #[.int .i64 64, .int .u64 a] w fun e w' => e = .returned (.tuple #[.int .u64 ((turnN 8 a : Nat) : Int), .bool true]) ∧ w = w' := by
  have HR := Lib.hid (fun W => rev64_any a W ha)
  generalize turnN 8 a = t at *
  go_enter Tryz.func68, Tryz.ntmps68
  go_wp2_with fail
  refine (HR.out _).mono ?_
  rintro e w1 ⟨rfl, rfl⟩
  go_wp2_with fail
  go_ret2
  exact ⟨rfl, rfl⟩
set_option maxHeartbeats 1000000 in
set_option maxRecDepth 100000 in
theorem aswap64_any (big : Bool) (a : Nat) (w : World) (ha : a < 18446744073709551616) : Calls Tryz.prog 69 #[.int .i64 64, .bool big, .int .u64 a] w fun e w' => e = .returned (.tuple #[.int .u64 (((if big then turnN 8 a else a % 18446744073709551616) : Nat) : Int), .bool true]) ∧ w = w' := by
  have H1 := Lib.hid (fun W => aturn64_any a W ha)
  have hl := turn_lt a 8
  rw [show (256 : Nat) ^ 8 = 18446744073709551616 from (by simp)] at hl
  have H2 := Lib.hid (fun W => aturn64_any (turnN 8 a) W (by omega))
  rw [turn_turn] at H2
  rw [show (256 : Nat) ^ 8 = 18446744073709551616 from (by simp)] at H2
  generalize turnN 8 a = t at *
  cases big
  · go_enter Tryz.func69, Tryz.ntmps69
    go_wp2_with fail
    refine (H1.out _).mono ?_
    rintro e w1 ⟨rfl, rfl⟩
    go_wp2_with fail
    refine (H2.out _).mono ?_
    rintro e w1 ⟨rfl, rfl⟩
    go_wp2_with fail
    go_ret2
    exact ⟨rfl, rfl⟩
  · go_enter Tryz.func69, Tryz.ntmps69
    go_wp2_with fail
    refine (H1.out _).mono ?_
    rintro e w1 ⟨rfl, rfl⟩
    go_wp2_with fail
    go_ret2
    exact ⟨rfl, rfl⟩

end Go.Proofs.YtdchmelgaljpfaaGreat

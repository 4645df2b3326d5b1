import Derived.Test.YtdchmelgaljpfaaGreatAa
import Derived.Test.YtdchmelgaljpfaaGreatAd
import Derived.Laws.BitsAllLaws
set_option linter.unusedSimpArgs false
set_option linter.unusedVariables false
namespace Go.Proofs.YtdchmelgaljpfaaGreat
open Go.RowKit

/-! ### what an operation makes, in plain -/
def arshN (B a n : Nat) : Nat := a / 2 ^ n + (if 2 ^ (B - 1) ≤ a then 2 ^ B - 2 ^ (B - n) else 0)
def aluN (op : Nat) (B a b : Nat) : Nat :=
  match op with
  | 0 => (a + b) % 18446744073709551616
  | 1 => (a + (18446744073709551616 - b)) % 18446744073709551616
  | 2 => a * b % 18446744073709551616
  | 3 => if b = 0 then 0 else a / b
  | 4 => a ||| b
  | 5 => a &&& b
  | 6 => a * 2 ^ (b % B) % 18446744073709551616
  | 7 => a / 2 ^ (b % B)
  | 8 => (18446744073709551616 - a) % 18446744073709551616
  | 9 => if b = 0 then a else a % b
  | 10 => a ^^^ b
  | 11 => b
  | 12 => arshN B a (b % B)
  | _ => 0
def doN (op : Nat) (wide : Bool) (a b : Nat) : Nat := if wide then aluN op 64 a b else aluN op 32 (a % 4294967296) (b % 4294967296) % 4294967296
theorem wrapU (n : Int) : IntKind.u64.wrap n = n % 18446744073709551616 := by
  simp [IntKind.wrap, IntKind.signed, IntKind.bits]
theorem pow_cast (n : Nat) : ((2 : Int) ^ n) = ((2 ^ n : Nat) : Int) := by simp
theorem orA_lt {a b n : Nat} (ha : a < 2 ^ n) (hb : b < 2 ^ n) : a ||| b < 2 ^ n := Nat.or_lt_two_pow ha hb
theorem w64 (a : Nat) (h : a < 18446744073709551616) : wrap64 (a : Int) = if 9223372036854775808 ≤ a then (a : Int) - 18446744073709551616 else a := by
  unfold wrap64
  split <;> omega
theorem w32 (a : Nat) (h : a < 4294967296) : wrap32 (a : Int) = if 2147483648 ≤ a then (a : Int) - 4294967296 else a := by
  unfold wrap32
  split <;> omega
/-- a number below 0, shifted -/
theorem neg_shift (a n B : Nat) (ha : a < 2 ^ B) (hn : n ≤ B) : ((a : Int) - (2 ^ B : Nat)) / (2 ^ n : Nat) = (a / 2 ^ n : Nat) - ((2 ^ (B - n) : Nat) : Int) := by
  have hp : (0 : Int) < ((2 ^ n : Nat) : Int) := by have := Nat.two_pow_pos n; omega
  have e : ((2 ^ B : Nat) : Int) = ((2 ^ (B - n) : Nat) : Int) * ((2 ^ n : Nat) : Int) := by
    rw [← Int.natCast_mul, ← Nat.pow_add]
    congr 2
    omega
  rw [e, Int.sub_eq_add_neg, ← Int.neg_mul, Int.add_mul_ediv_right _ _ (by omega)]
  rw [Int.natCast_ediv]
  omega
theorem arsh64 (a n : Nat) (ha : a < 18446744073709551616) (hn : n < 64) : IntKind.u64.wrap (wrap64 (a : Int) / 2 ^ n) = ((arshN 64 a n : Nat) : Int) := by
  rw [wrapU, w64 a ha, pow_cast]
  unfold arshN
  have h1 : a / 2 ^ n ≤ a := Nat.div_le_self _ _
  have h2 : 2 ^ (64 - n) ≤ 2 ^ 64 := Nat.pow_le_pow_right (by omega) (by omega)
  have h3 := Nat.two_pow_pos (64 - n)
  by_cases hc : 9223372036854775808 ≤ a
  · rw [if_pos hc, if_pos (by simpa using hc)]
    rw [show (18446744073709551616 : Int) = ((2 ^ 64 : Nat) : Int) from rfl, neg_shift a n 64 (by simpa using ha) (by omega)]
    have h4 : a / 2 ^ n < 2 ^ (64 - n) := by
      rw [Nat.div_lt_iff_lt_mul (Nat.two_pow_pos n), ← Nat.pow_add, show 64 - n + n = 64 by omega]
      simpa using ha
    generalize 2 ^ (64 - n) = q at *
    generalize a / 2 ^ n = r at *
    omega
  · rw [if_neg hc, if_neg (by simpa using hc), ← Int.natCast_ediv]
    generalize a / 2 ^ n = r at *
    omega
theorem arsh32 (a n : Nat) (ha : a < 4294967296) (hn : n < 32) : wrap32 (a : Int) / 2 ^ n % 4294967296 = ((arshN 32 a n : Nat) : Int) := by
  rw [w32 a ha, pow_cast]
  unfold arshN
  have h1 : a / 2 ^ n ≤ a := Nat.div_le_self _ _
  have h2 : 2 ^ (32 - n) ≤ 2 ^ 32 := Nat.pow_le_pow_right (by omega) (by omega)
  have h3 := Nat.two_pow_pos (32 - n)
  by_cases hc : 2147483648 ≤ a
  · rw [if_pos hc, if_pos (by simpa using hc)]
    rw [show (4294967296 : Int) = ((2 ^ 32 : Nat) : Int) from rfl, neg_shift a n 32 (by simpa using ha) (by omega)]
    have h4 : a / 2 ^ n < 2 ^ (32 - n) := by
      rw [Nat.div_lt_iff_lt_mul (Nat.two_pow_pos n), ← Nat.pow_add, show 32 - n + n = 32 by omega]
      simpa using ha
    generalize 2 ^ (32 - n) = q at *
    generalize a / 2 ^ n = r at *
    omega
  · rw [if_neg hc, if_neg (by simpa using hc), ← Int.natCast_ediv]
    generalize a / 2 ^ n = r at *
    omega
theorem arsh_lt (B a n : Nat) (ha : a < 2 ^ B) (hn : n < B) : arshN B a n < 2 ^ B := by
  unfold arshN
  have h1 : a / 2 ^ n ≤ a := Nat.div_le_self _ _
  have h4 : a / 2 ^ n < 2 ^ (B - n) := by
    rw [Nat.div_lt_iff_lt_mul (Nat.two_pow_pos n), ← Nat.pow_add, show B - n + n = B by omega]
    exact ha
  have h2 : 2 ^ (B - n) ≤ 2 ^ B := Nat.pow_le_pow_right (by omega) (by omega)
  split <;> omega
theorem alu_lt (op B a b : Nat) (hB : B = 32 ∨ B = 64) (ha : a < 18446744073709551616) (hb : b < 18446744073709551616) (h32 : B = 32 → a < 4294967296) : aluN op B a b < 18446744073709551616 := by
  unfold aluN
  split
  · omega
  · omega
  · omega
  · split
    · omega
    · exact Nat.lt_of_le_of_lt (Nat.div_le_self _ _) ha
  · exact orA_lt (n := 64) ha hb
  · exact Nat.lt_of_le_of_lt Nat.and_le_left ha
  · exact Nat.mod_lt _ (by omega)
  · exact Nat.lt_of_le_of_lt (Nat.div_le_self _ _) ha
  · omega
  · split
    · omega
    · exact Nat.lt_of_le_of_lt (Nat.mod_le _ _) ha
  · exact Nat.xor_lt_two_pow (n := 64) ha hb
  · exact hb
  · rcases hB with rfl | rfl
    · have := arsh_lt 32 a (b % 32) (by simpa using h32 rfl) (by omega)
      omega
    · exact arsh_lt 64 a (b % 64) ha (by omega)
  · omega
/-! ### the program's operations -/
set_option maxHeartbeats 1000000 in
theorem a_add (a b B : Nat) (w : World) (ha : a < 18446744073709551616) (hb : b < 18446744073709551616) (hB : B = 32 ∨ B = 64) (h32 : B = 32 → a < 4294967296) : Calls Tryz.prog 93 #[.int .u64 a, .int .u64 b, .int .i64 B] w fun e w' => e = .returned (.int .u64 ((aluN 0 B a b : Nat) : Int)) ∧ w = w' := by
  unfold aluN
  go_enter Tryz.func93, Tryz.ntmps93
  go_wp2_with fail
  go_ret
  exact ⟨congrArg (fun z : Int => Ending.returned (.int .u64 z)) (by rw [wrapU]; omega), rfl⟩
set_option maxHeartbeats 1000000 in
theorem a_sub (a b B : Nat) (w : World) (ha : a < 18446744073709551616) (hb : b < 18446744073709551616) (hB : B = 32 ∨ B = 64) (h32 : B = 32 → a < 4294967296) : Calls Tryz.prog 94 #[.int .u64 a, .int .u64 b, .int .i64 B] w fun e w' => e = .returned (.int .u64 ((aluN 1 B a b : Nat) : Int)) ∧ w = w' := by
  unfold aluN
  go_enter Tryz.func94, Tryz.ntmps94
  go_wp2_with fail
  go_ret
  exact ⟨congrArg (fun z : Int => Ending.returned (.int .u64 z)) (by rw [wrapU]; omega), rfl⟩
set_option maxHeartbeats 1000000 in
theorem a_mul (a b B : Nat) (w : World) (ha : a < 18446744073709551616) (hb : b < 18446744073709551616) (hB : B = 32 ∨ B = 64) (h32 : B = 32 → a < 4294967296) : Calls Tryz.prog 95 #[.int .u64 a, .int .u64 b, .int .i64 B] w fun e w' => e = .returned (.int .u64 ((aluN 2 B a b : Nat) : Int)) ∧ w = w' := by
  unfold aluN
  go_enter Tryz.func95, Tryz.ntmps95
  go_wp2_with fail
  go_ret
  exact ⟨congrArg (fun z : Int => Ending.returned (.int .u64 z)) (by rw [wrapU, ← Int.natCast_mul]; omega), rfl⟩
set_option maxHeartbeats 1000000 in
theorem a_or (a b B : Nat) (w : World) (ha : a < 18446744073709551616) (hb : b < 18446744073709551616) (hB : B = 32 ∨ B = 64) (h32 : B = 32 → a < 4294967296) : Calls Tryz.prog 97 #[.int .u64 a, .int .u64 b, .int .i64 B] w fun e w' => e = .returned (.int .u64 ((aluN 4 B a b : Nat) : Int)) ∧ w = w' := by
  unfold aluN
  go_enter Tryz.func97, Tryz.ntmps97
  go_wp2_with fail
  go_ret
  exact ⟨congrArg (fun z : Int => Ending.returned (.int .u64 z)) (u64_or_nat a b ha hb), rfl⟩
set_option maxHeartbeats 1000000 in
theorem a_and (a b B : Nat) (w : World) (ha : a < 18446744073709551616) (hb : b < 18446744073709551616) (hB : B = 32 ∨ B = 64) (h32 : B = 32 → a < 4294967296) : Calls Tryz.prog 98 #[.int .u64 a, .int .u64 b, .int .i64 B] w fun e w' => e = .returned (.int .u64 ((aluN 5 B a b : Nat) : Int)) ∧ w = w' := by
  unfold aluN
  go_enter Tryz.func98, Tryz.ntmps98
  go_wp2_with fail
  go_ret
  exact ⟨congrArg (fun z : Int => Ending.returned (.int .u64 z)) (u64_and_nat a b ha hb), rfl⟩
set_option maxHeartbeats 1000000 in
theorem a_xor (a b B : Nat) (w : World) (ha : a < 18446744073709551616) (hb : b < 18446744073709551616) (hB : B = 32 ∨ B = 64) (h32 : B = 32 → a < 4294967296) : Calls Tryz.prog 103 #[.int .u64 a, .int .u64 b, .int .i64 B] w fun e w' => e = .returned (.int .u64 ((aluN 10 B a b : Nat) : Int)) ∧ w = w' := by
  unfold aluN
  go_enter Tryz.func103, Tryz.ntmps103
  go_wp2_with fail
  go_ret
  exact ⟨congrArg (fun z : Int => Ending.returned (.int .u64 z)) (u64_xor_nat a b ha hb), rfl⟩
set_option maxHeartbeats 1000000 in
theorem a_mov (a b B : Nat) (w : World) (ha : a < 18446744073709551616) (hb : b < 18446744073709551616) (hB : B = 32 ∨ B = 64) (h32 : B = 32 → a < 4294967296) : Calls Tryz.prog 104 #[.int .u64 a, .int .u64 b, .int .i64 B] w fun e w' => e = .returned (.int .u64 ((aluN 11 B a b : Nat) : Int)) ∧ w = w' := by
  unfold aluN
  go_enter Tryz.func104, Tryz.ntmps104
  go_wp2_with fail
  go_ret
  exact ⟨congrArg (fun z : Int => Ending.returned (.int .u64 z)) rfl, rfl⟩
set_option maxHeartbeats 1000000 in
theorem a_neg (a b B : Nat) (w : World) (ha : a < 18446744073709551616) (hb : b < 18446744073709551616) (hB : B = 32 ∨ B = 64) (h32 : B = 32 → a < 4294967296) : Calls Tryz.prog 101 #[.int .u64 a, .int .u64 b, .int .i64 B] w fun e w' => e = .returned (.int .u64 ((aluN 8 B a b : Nat) : Int)) ∧ w = w' := by
  unfold aluN
  go_enter Tryz.func101, Tryz.ntmps101
  go_wp2_with fail
  go_ret
  exact ⟨congrArg (fun z : Int => Ending.returned (.int .u64 z)) (by rw [wrapU]; omega), rfl⟩
set_option maxHeartbeats 1000000 in
theorem a_div (a b B : Nat) (w : World) (ha : a < 18446744073709551616) (hb : b < 18446744073709551616) (hB : B = 32 ∨ B = 64) (h32 : B = 32 → a < 4294967296) : Calls Tryz.prog 96 #[.int .u64 a, .int .u64 b, .int .i64 B] w fun e w' => e = .returned (.int .u64 ((aluN 3 B a b : Nat) : Int)) ∧ w = w' := by
  unfold aluN
  by_cases h0 : b = 0
  · subst h0
    go_enter Tryz.func96, Tryz.ntmps96
    go_wp2_with fail
    go_ret
    exact ⟨rfl, rfl⟩
  · have e0 : ((b : Int) == 0) = false := by simpa using h0
    have hne : (b : Int) ≠ 0 := by omega
    have hdv : IntKind.u64.wrap ((a : Int) / (b : Int)) = ((a / b : Nat) : Int) := by
      rw [wrapU]
      have h1 := Nat.div_le_self a b
      have h2 : (a : Int) / (b : Int) = ((a / b : Nat) : Int) := (Int.natCast_ediv a b).symm
      rw [h2]
      generalize a / b = q at *
      omega
    simp only [if_neg h0]
    go_enter Tryz.func96, Tryz.ntmps96
    go_wp2_with fail
    go_ret
    exact ⟨congrArg (fun z : Int => Ending.returned (.int .u64 z)) (by first | exact hdv | (rw [Int.natCast_ediv]; done)), rfl⟩
set_option maxHeartbeats 1000000 in
theorem a_mod (a b B : Nat) (w : World) (ha : a < 18446744073709551616) (hb : b < 18446744073709551616) (hB : B = 32 ∨ B = 64) (h32 : B = 32 → a < 4294967296) : Calls Tryz.prog 102 #[.int .u64 a, .int .u64 b, .int .i64 B] w fun e w' => e = .returned (.int .u64 ((aluN 9 B a b : Nat) : Int)) ∧ w = w' := by
  unfold aluN
  by_cases h0 : b = 0
  · subst h0
    go_enter Tryz.func102, Tryz.ntmps102
    go_wp2_with fail
    go_ret
    exact ⟨rfl, rfl⟩
  · have e0 : ((b : Int) == 0) = false := by simpa using h0
    have hne : (b : Int) ≠ 0 := by omega
    simp only [if_neg h0]
    go_enter Tryz.func102, Tryz.ntmps102
    go_wp2_with fail
    go_ret
    exact ⟨congrArg (fun z : Int => Ending.returned (.int .u64 z)) (by first | rfl | (rw [Int.natCast_emod]; done)), rfl⟩
set_option maxHeartbeats 1000000 in
theorem a_lsh (a b B : Nat) (w : World) (ha : a < 18446744073709551616) (hb : b < 18446744073709551616) (hB : B = 32 ∨ B = 64) (h32 : B = 32 → a < 4294967296) : Calls Tryz.prog 99 #[.int .u64 a, .int .u64 b, .int .i64 B] w fun e w' => e = .returned (.int .u64 ((aluN 6 B a b : Nat) : Int)) ∧ w = w' := by
  unfold aluN
  rcases hB with rfl | rfl
  · go_enter Tryz.func99, Tryz.ntmps99
    go_wp2_with fail
    go_ret
    exact ⟨congrArg (fun z : Int => Ending.returned (.int .u64 z)) (by rw [wrapU, pow_cast, ← Int.natCast_mul] <;> rfl), rfl⟩
  · go_enter Tryz.func99, Tryz.ntmps99
    go_wp2_with fail
    go_ret
    exact ⟨congrArg (fun z : Int => Ending.returned (.int .u64 z)) (by rw [wrapU, pow_cast, ← Int.natCast_mul] <;> rfl), rfl⟩
set_option maxHeartbeats 1000000 in
theorem a_rsh (a b B : Nat) (w : World) (ha : a < 18446744073709551616) (hb : b < 18446744073709551616) (hB : B = 32 ∨ B = 64) (h32 : B = 32 → a < 4294967296) : Calls Tryz.prog 100 #[.int .u64 a, .int .u64 b, .int .i64 B] w fun e w' => e = .returned (.int .u64 ((aluN 7 B a b : Nat) : Int)) ∧ w = w' := by
  unfold aluN
  rcases hB with rfl | rfl
  · go_enter Tryz.func100, Tryz.ntmps100
    go_wp2_with fail
    go_ret
    exact ⟨congrArg (fun z : Int => Ending.returned (.int .u64 z)) (by rw [pow_cast] <;> rfl), rfl⟩
  · go_enter Tryz.func100, Tryz.ntmps100
    go_wp2_with fail
    go_ret
    exact ⟨congrArg (fun z : Int => Ending.returned (.int .u64 z)) (by rw [pow_cast] <;> rfl), rfl⟩
set_option maxHeartbeats 1000000 in
theorem a_arsh (a b B : Nat) (w : World) (ha : a < 18446744073709551616) (hb : b < 18446744073709551616) (hB : B = 32 ∨ B = 64) (h32 : B = 32 → a < 4294967296) : Calls Tryz.prog 105 #[.int .u64 a, .int .u64 b, .int .i64 B] w fun e w' => e = .returned (.int .u64 ((aluN 12 B a b : Nat) : Int)) ∧ w = w' := by
  unfold aluN
  rcases hB with rfl | rfl
  · go_enter Tryz.func105, Tryz.ntmps105
    go_wp2_with fail
    go_ret
    exact ⟨congrArg (fun z : Int => Ending.returned (.int .u64 z)) (arsh32 a (b % 32) (h32 trivial) (by omega)), rfl⟩
  · go_enter Tryz.func105, Tryz.ntmps105
    go_wp2_with fail
    go_ret
    exact ⟨congrArg (fun z : Int => Ending.returned (.int .u64 z)) (arsh64 a (b % 64) ha (by omega)), rfl⟩
/-! ### Do, Turn, Swap, Sign -/
set_option maxHeartbeats 1000000 in
theorem alow_any (a : Nat) (w : World) (ha : a < 18446744073709551616) : Calls Tryz.prog 43 #[.int .u64 a] w fun e w' => e = .returned (.int .u64 ((a % 4294967296 : Nat) : Int)) ∧ w = w' := by
  have h : bits .and .u64 (a : Int) 4294967295 = ((a % 4294967296 : Nat) : Int) := by
    rw [show (4294967295 : Int) = ((4294967295 : Nat) : Int) from rfl, u64_and_nat a 4294967295 ha (by omega)]
    rw [show (4294967295 : Nat) = 2 ^ 32 - 1 from rfl, Nat.and_two_pow_sub_one_eq_mod]
  go_enter Tryz.func43, Tryz.ntmps43
  go_wp2_with fail
  go_ret
  exact ⟨congrArg (fun z : Int => Ending.returned (.int .u64 z)) (by first | omega | exact h), rfl⟩
def doTab : Array Value := #[.func (.func 93) #[] #[], .func (.func 94) #[] #[], .func (.func 95) #[] #[], .func (.func 96) #[] #[], .func (.func 97) #[] #[], .func (.func 98) #[] #[], .func (.func 99) #[] #[], .func (.func 100) #[] #[], .func (.func 101) #[] #[], .func (.func 102) #[] #[], .func (.func 103) #[] #[], .func (.func 104) #[] #[], .func (.func 105) #[] #[]]
set_option maxHeartbeats 1000000 in
set_option maxRecDepth 100000 in
theorem tabled_any (w : World) : Calls Tryz.prog 42 #[] w fun e w' => e = .returned (.agg doTab) ∧ Kept (fun _ => False) w w' := by
  go_enter Tryz.func42, Tryz.ntmps42
  have hi : (Tryz.prog.info? 135).map (·.size) = some 13 := by kernel_rfl
  obtain ⟨i0, hi0, hi1⟩ := Option.map_eq_some_iff.1 hi
  have hb0 : Blk (w.alloc (.cells (Array.replicate 13 .nilFunc) 135)) w.heap.size 135 (Array.replicate 13 .nilFunc) := Blk.new w _ _
  have hk0 := (Kept.refl (fun _ => False) w).alloc (.cells (Array.replicate 13 .nilFunc) 135)
  go_wp2_with (refine wpList_storeB rfl _ _ 135 rfl hi0 w.heap.size 0 135 (Array.replicate 13 .nilFunc) doTab rfl rfl hi1 (by decide) (by intro y hy; simp [doTab] at hy; rcases hy with rfl | rfl | rfl | rfl | rfl | rfl | rfl | rfl | rfl | rfl | rfl | rfl | rfl <;> rfl) (by exact hb0) ?_; intro w2 hb2 hk2)
  have hk : Kept (fun _ => False) w w2 := hk0.trans hk2 (fun k hk e => by omega)
  refine bodyPost_ret (v := .agg doTab) (results_cellA rfl _ _ w.heap.size _ _ (0, 0) _ rfl hb2 Tryz.underlying135 rfl (by kernel_rfl)) rfl ⟨rfl, hk⟩
set_option maxHeartbeats 2000000 in
set_option maxRecDepth 100000 in
theorem do_0 (wide : Bool) (a b : Nat) (w : World) (ha : a < 18446744073709551616) (hb : b < 18446744073709551616) : Calls Tryz.prog 14 #[.int .i64 0, .bool wide, .int .u64 a, .int .u64 b] w fun e w' => e = .returned (.tuple #[.int .u64 ((doN 0 wide a b : Nat) : Int), .bool true]) ∧ Kept (fun _ => False) w w' := by
  have HTB := Lib.hid (tabled_any w)
  have HW := Lib.hid (fun W => a_add a b 64 W ha hb (.inr rfl) (by omega))
  have HN := Lib.hid (fun W => a_add (a % 4294967296) (b % 4294967296) 32 W (by omega) (by omega) (.inl rfl) (by omega))
  have HLA := Lib.hid (fun W => alow_any a W ha)
  have HLB := Lib.hid (fun W => alow_any b W hb)
  have HLR := Lib.hid (fun W => alow_any (aluN 0 32 (a % 4294967296) (b % 4294967296)) W (alu_lt _ _ _ _ (.inl rfl) (by omega) (by omega) (by omega)))
  unfold doN
  cases wide
  · go_enter Tryz.func14, Tryz.ntmps14
    go_wp2_with fail
    refine HTB.out.mono ?_
    rintro e w1 ⟨rfl, hk⟩
    go_wp2_with (first | (refine wpList_valA rfl (.field 135 (.tmp 17) 0) rfl (.agg doTab) (fun w => by kernel_rfl) ?_) | (refine wpList_valA rfl (.index 133 (.tmp 18) (.tmp 19)) rfl (.func (.func 93) #[] #[]) (fun w => by kernel_rfl) ?_))
    refine (HLA.out _).mono ?_
    rintro e w2 ⟨rfl, rfl⟩
    go_wp2_with fail
    refine (HLB.out _).mono ?_
    rintro e w2 ⟨rfl, rfl⟩
    go_wp2_with fail
    refine (HN.out _).mono ?_
    rintro e w2 ⟨rfl, rfl⟩
    go_wp2_with fail
    refine (HLR.out _).mono ?_
    rintro e w2 ⟨rfl, rfl⟩
    go_wp2_with fail
    go_ret2
    exact ⟨rfl, hk⟩
  · go_enter Tryz.func14, Tryz.ntmps14
    go_wp2_with fail
    refine HTB.out.mono ?_
    rintro e w1 ⟨rfl, hk⟩
    go_wp2_with (first | (refine wpList_valA rfl (.field 135 (.tmp 17) 0) rfl (.agg doTab) (fun w => by kernel_rfl) ?_) | (refine wpList_valA rfl (.index 133 (.tmp 18) (.tmp 19)) rfl (.func (.func 93) #[] #[]) (fun w => by kernel_rfl) ?_))
    refine (HW.out _).mono ?_
    rintro e w2 ⟨rfl, rfl⟩
    go_wp2_with fail
    go_ret2
    exact ⟨rfl, hk⟩
set_option maxHeartbeats 2000000 in
set_option maxRecDepth 100000 in
theorem do_1 (wide : Bool) (a b : Nat) (w : World) (ha : a < 18446744073709551616) (hb : b < 18446744073709551616) : Calls Tryz.prog 14 #[.int .i64 1, .bool wide, .int .u64 a, .int .u64 b] w fun e w' => e = .returned (.tuple #[.int .u64 ((doN 1 wide a b : Nat) : Int), .bool true]) ∧ Kept (fun _ => False) w w' := by
  have HTB := Lib.hid (tabled_any w)
  have HW := Lib.hid (fun W => a_sub a b 64 W ha hb (.inr rfl) (by omega))
  have HN := Lib.hid (fun W => a_sub (a % 4294967296) (b % 4294967296) 32 W (by omega) (by omega) (.inl rfl) (by omega))
  have HLA := Lib.hid (fun W => alow_any a W ha)
  have HLB := Lib.hid (fun W => alow_any b W hb)
  have HLR := Lib.hid (fun W => alow_any (aluN 1 32 (a % 4294967296) (b % 4294967296)) W (alu_lt _ _ _ _ (.inl rfl) (by omega) (by omega) (by omega)))
  unfold doN
  cases wide
  · go_enter Tryz.func14, Tryz.ntmps14
    go_wp2_with fail
    refine HTB.out.mono ?_
    rintro e w1 ⟨rfl, hk⟩
    go_wp2_with (first | (refine wpList_valA rfl (.field 135 (.tmp 17) 0) rfl (.agg doTab) (fun w => by kernel_rfl) ?_) | (refine wpList_valA rfl (.index 133 (.tmp 18) (.tmp 19)) rfl (.func (.func 94) #[] #[]) (fun w => by kernel_rfl) ?_))
    refine (HLA.out _).mono ?_
    rintro e w2 ⟨rfl, rfl⟩
    go_wp2_with fail
    refine (HLB.out _).mono ?_
    rintro e w2 ⟨rfl, rfl⟩
    go_wp2_with fail
    refine (HN.out _).mono ?_
    rintro e w2 ⟨rfl, rfl⟩
    go_wp2_with fail
    refine (HLR.out _).mono ?_
    rintro e w2 ⟨rfl, rfl⟩
    go_wp2_with fail
    go_ret2
    exact ⟨rfl, hk⟩
  · go_enter Tryz.func14, Tryz.ntmps14
    go_wp2_with fail
    refine HTB.out.mono ?_
    rintro e w1 ⟨rfl, hk⟩
    go_wp2_with (first | (refine wpList_valA rfl (.field 135 (.tmp 17) 0) rfl (.agg doTab) (fun w => by kernel_rfl) ?_) | (refine wpList_valA rfl (.index 133 (.tmp 18) (.tmp 19)) rfl (.func (.func 94) #[] #[]) (fun w => by kernel_rfl) ?_))
    refine (HW.out _).mono ?_
    rintro e w2 ⟨rfl, rfl⟩
    go_wp2_with fail
    go_ret2
    exact ⟨rfl, hk⟩
set_option maxHeartbeats 2000000 in
set_option maxRecDepth 100000 in
theorem do_2 (wide : Bool) (a b : Nat) (w : World) (ha : a < 18446744073709551616) (hb : b < 18446744073709551616) : Calls Tryz.prog 14 #[.int .i64 2, .bool wide, .int .u64 a, .int .u64 b] w fun e w' => e = .returned (.tuple #[.int .u64 ((doN 2 wide a b : Nat) : Int), .bool true]) ∧ Kept (fun _ => False) w w' := by
  have HTB := Lib.hid (tabled_any w)
  have HW := Lib.hid (fun W => a_mul a b 64 W ha hb (.inr rfl) (by omega))
  have HN := Lib.hid (fun W => a_mul (a % 4294967296) (b % 4294967296) 32 W (by omega) (by omega) (.inl rfl) (by omega))
  have HLA := Lib.hid (fun W => alow_any a W ha)
  have HLB := Lib.hid (fun W => alow_any b W hb)
  have HLR := Lib.hid (fun W => alow_any (aluN 2 32 (a % 4294967296) (b % 4294967296)) W (alu_lt _ _ _ _ (.inl rfl) (by omega) (by omega) (by omega)))
  unfold doN
  cases wide
  · go_enter Tryz.func14, Tryz.ntmps14
    go_wp2_with fail
    refine HTB.out.mono ?_
    rintro e w1 ⟨rfl, hk⟩
    go_wp2_with (first | (refine wpList_valA rfl (.field 135 (.tmp 17) 0) rfl (.agg doTab) (fun w => by kernel_rfl) ?_) | (refine wpList_valA rfl (.index 133 (.tmp 18) (.tmp 19)) rfl (.func (.func 95) #[] #[]) (fun w => by kernel_rfl) ?_))
    refine (HLA.out _).mono ?_
    rintro e w2 ⟨rfl, rfl⟩
    go_wp2_with fail
    refine (HLB.out _).mono ?_
    rintro e w2 ⟨rfl, rfl⟩
    go_wp2_with fail
    refine (HN.out _).mono ?_
    rintro e w2 ⟨rfl, rfl⟩
    go_wp2_with fail
    refine (HLR.out _).mono ?_
    rintro e w2 ⟨rfl, rfl⟩
    go_wp2_with fail
    go_ret2
    exact ⟨rfl, hk⟩
  · go_enter Tryz.func14, Tryz.ntmps14
    go_wp2_with fail
    refine HTB.out.mono ?_
    rintro e w1 ⟨rfl, hk⟩
    go_wp2_with (first | (refine wpList_valA rfl (.field 135 (.tmp 17) 0) rfl (.agg doTab) (fun w => by kernel_rfl) ?_) | (refine wpList_valA rfl (.index 133 (.tmp 18) (.tmp 19)) rfl (.func (.func 95) #[] #[]) (fun w => by kernel_rfl) ?_))
    refine (HW.out _).mono ?_
    rintro e w2 ⟨rfl, rfl⟩
    go_wp2_with fail
    go_ret2
    exact ⟨rfl, hk⟩
set_option maxHeartbeats 2000000 in
set_option maxRecDepth 100000 in
theorem do_3 (wide : Bool) (a b : Nat) (w : World) (ha : a < 18446744073709551616) (hb : b < 18446744073709551616) : Calls Tryz.prog 14 #[.int .i64 3, .bool wide, .int .u64 a, .int .u64 b] w fun e w' => e = .returned (.tuple #[.int .u64 ((doN 3 wide a b : Nat) : Int), .bool true]) ∧ Kept (fun _ => False) w w' := by
  have HTB := Lib.hid (tabled_any w)
  have HW := Lib.hid (fun W => a_div a b 64 W ha hb (.inr rfl) (by omega))
  have HN := Lib.hid (fun W => a_div (a % 4294967296) (b % 4294967296) 32 W (by omega) (by omega) (.inl rfl) (by omega))
  have HLA := Lib.hid (fun W => alow_any a W ha)
  have HLB := Lib.hid (fun W => alow_any b W hb)
  have HLR := Lib.hid (fun W => alow_any (aluN 3 32 (a % 4294967296) (b % 4294967296)) W (alu_lt _ _ _ _ (.inl rfl) (by omega) (by omega) (by omega)))
  unfold doN
  cases wide
  · go_enter Tryz.func14, Tryz.ntmps14
    go_wp2_with fail
    refine HTB.out.mono ?_
    rintro e w1 ⟨rfl, hk⟩
    go_wp2_with (first | (refine wpList_valA rfl (.field 135 (.tmp 17) 0) rfl (.agg doTab) (fun w => by kernel_rfl) ?_) | (refine wpList_valA rfl (.index 133 (.tmp 18) (.tmp 19)) rfl (.func (.func 96) #[] #[]) (fun w => by kernel_rfl) ?_))
    refine (HLA.out _).mono ?_
    rintro e w2 ⟨rfl, rfl⟩
    go_wp2_with fail
    refine (HLB.out _).mono ?_
    rintro e w2 ⟨rfl, rfl⟩
    go_wp2_with fail
    refine (HN.out _).mono ?_
    rintro e w2 ⟨rfl, rfl⟩
    go_wp2_with fail
    refine (HLR.out _).mono ?_
    rintro e w2 ⟨rfl, rfl⟩
    go_wp2_with fail
    go_ret2
    exact ⟨rfl, hk⟩
  · go_enter Tryz.func14, Tryz.ntmps14
    go_wp2_with fail
    refine HTB.out.mono ?_
    rintro e w1 ⟨rfl, hk⟩
    go_wp2_with (first | (refine wpList_valA rfl (.field 135 (.tmp 17) 0) rfl (.agg doTab) (fun w => by kernel_rfl) ?_) | (refine wpList_valA rfl (.index 133 (.tmp 18) (.tmp 19)) rfl (.func (.func 96) #[] #[]) (fun w => by kernel_rfl) ?_))
    refine (HW.out _).mono ?_
    rintro e w2 ⟨rfl, rfl⟩
    go_wp2_with fail
    go_ret2
    exact ⟨rfl, hk⟩
set_option maxHeartbeats 2000000 in
set_option maxRecDepth 100000 in
theorem do_4 (wide : Bool) (a b : Nat) (w : World) (ha : a < 18446744073709551616) (hb : b < 18446744073709551616) : Calls Tryz.prog 14 #[.int .i64 4, .bool wide, .int .u64 a, .int .u64 b] w fun e w' => e = .returned (.tuple #[.int .u64 ((doN 4 wide a b : Nat) : Int), .bool true]) ∧ Kept (fun _ => False) w w' := by
  have HTB := Lib.hid (tabled_any w)
  have HW := Lib.hid (fun W => a_or a b 64 W ha hb (.inr rfl) (by omega))
  have HN := Lib.hid (fun W => a_or (a % 4294967296) (b % 4294967296) 32 W (by omega) (by omega) (.inl rfl) (by omega))
  have HLA := Lib.hid (fun W => alow_any a W ha)
  have HLB := Lib.hid (fun W => alow_any b W hb)
  have HLR := Lib.hid (fun W => alow_any (aluN 4 32 (a % 4294967296) (b % 4294967296)) W (alu_lt _ _ _ _ (.inl rfl) (by omega) (by omega) (by omega)))
  unfold doN
  cases wide
  · go_enter Tryz.func14, Tryz.ntmps14
    go_wp2_with fail
    refine HTB.out.mono ?_
    rintro e w1 ⟨rfl, hk⟩
    go_wp2_with (first | (refine wpList_valA rfl (.field 135 (.tmp 17) 0) rfl (.agg doTab) (fun w => by kernel_rfl) ?_) | (refine wpList_valA rfl (.index 133 (.tmp 18) (.tmp 19)) rfl (.func (.func 97) #[] #[]) (fun w => by kernel_rfl) ?_))
    refine (HLA.out _).mono ?_
    rintro e w2 ⟨rfl, rfl⟩
    go_wp2_with fail
    refine (HLB.out _).mono ?_
    rintro e w2 ⟨rfl, rfl⟩
    go_wp2_with fail
    refine (HN.out _).mono ?_
    rintro e w2 ⟨rfl, rfl⟩
    go_wp2_with fail
    refine (HLR.out _).mono ?_
    rintro e w2 ⟨rfl, rfl⟩
    go_wp2_with fail
    go_ret2
    exact ⟨rfl, hk⟩
  · go_enter Tryz.func14, Tryz.ntmps14
    go_wp2_with fail
    refine HTB.out.mono ?_
    rintro e w1 ⟨rfl, hk⟩
    go_wp2_with (first | (refine wpList_valA rfl (.field 135 (.tmp 17) 0) rfl (.agg doTab) (fun w => by kernel_rfl) ?_) | (refine wpList_valA rfl (.index 133 (.tmp 18) (.tmp 19)) rfl (.func (.func 97) #[] #[]) (fun w => by kernel_rfl) ?_))
    refine (HW.out _).mono ?_
    rintro e w2 ⟨rfl, rfl⟩
    go_wp2_with fail
    go_ret2
    exact ⟨rfl, hk⟩
set_option maxHeartbeats 2000000 in
set_option maxRecDepth 100000 in
theorem do_5 (wide : Bool) (a b : Nat) (w : World) (ha : a < 18446744073709551616) (hb : b < 18446744073709551616) : Calls Tryz.prog 14 #[.int .i64 5, .bool wide, .int .u64 a, .int .u64 b] w fun e w' => e = .returned (.tuple #[.int .u64 ((doN 5 wide a b : Nat) : Int), .bool true]) ∧ Kept (fun _ => False) w w' := by
  have HTB := Lib.hid (tabled_any w)
  have HW := Lib.hid (fun W => a_and a b 64 W ha hb (.inr rfl) (by omega))
  have HN := Lib.hid (fun W => a_and (a % 4294967296) (b % 4294967296) 32 W (by omega) (by omega) (.inl rfl) (by omega))
  have HLA := Lib.hid (fun W => alow_any a W ha)
  have HLB := Lib.hid (fun W => alow_any b W hb)
  have HLR := Lib.hid (fun W => alow_any (aluN 5 32 (a % 4294967296) (b % 4294967296)) W (alu_lt _ _ _ _ (.inl rfl) (by omega) (by omega) (by omega)))
  unfold doN
  cases wide
  · go_enter Tryz.func14, Tryz.ntmps14
    go_wp2_with fail
    refine HTB.out.mono ?_
    rintro e w1 ⟨rfl, hk⟩
    go_wp2_with (first | (refine wpList_valA rfl (.field 135 (.tmp 17) 0) rfl (.agg doTab) (fun w => by kernel_rfl) ?_) | (refine wpList_valA rfl (.index 133 (.tmp 18) (.tmp 19)) rfl (.func (.func 98) #[] #[]) (fun w => by kernel_rfl) ?_))
    refine (HLA.out _).mono ?_
    rintro e w2 ⟨rfl, rfl⟩
    go_wp2_with fail
    refine (HLB.out _).mono ?_
    rintro e w2 ⟨rfl, rfl⟩
    go_wp2_with fail
    refine (HN.out _).mono ?_
    rintro e w2 ⟨rfl, rfl⟩
    go_wp2_with fail
    refine (HLR.out _).mono ?_
    rintro e w2 ⟨rfl, rfl⟩
    go_wp2_with fail
    go_ret2
    exact ⟨rfl, hk⟩
  · go_enter Tryz.func14, Tryz.ntmps14
    go_wp2_with fail
    refine HTB.out.mono ?_
    rintro e w1 ⟨rfl, hk⟩
    go_wp2_with (first | (refine wpList_valA rfl (.field 135 (.tmp 17) 0) rfl (.agg doTab) (fun w => by kernel_rfl) ?_) | (refine wpList_valA rfl (.index 133 (.tmp 18) (.tmp 19)) rfl (.func (.func 98) #[] #[]) (fun w => by kernel_rfl) ?_))
    refine (HW.out _).mono ?_
    rintro e w2 ⟨rfl, rfl⟩
    go_wp2_with fail
    go_ret2
    exact ⟨rfl, hk⟩
set_option maxHeartbeats 2000000 in
set_option maxRecDepth 100000 in
theorem do_6 (wide : Bool) (a b : Nat) (w : World) (ha : a < 18446744073709551616) (hb : b < 18446744073709551616) : Calls Tryz.prog 14 #[.int .i64 6, .bool wide, .int .u64 a, .int .u64 b] w fun e w' => e = .returned (.tuple #[.int .u64 ((doN 6 wide a b : Nat) : Int), .bool true]) ∧ Kept (fun _ => False) w w' := by
  have HTB := Lib.hid (tabled_any w)
  have HW := Lib.hid (fun W => a_lsh a b 64 W ha hb (.inr rfl) (by omega))
  have HN := Lib.hid (fun W => a_lsh (a % 4294967296) (b % 4294967296) 32 W (by omega) (by omega) (.inl rfl) (by omega))
  have HLA := Lib.hid (fun W => alow_any a W ha)
  have HLB := Lib.hid (fun W => alow_any b W hb)
  have HLR := Lib.hid (fun W => alow_any (aluN 6 32 (a % 4294967296) (b % 4294967296)) W (alu_lt _ _ _ _ (.inl rfl) (by omega) (by omega) (by omega)))
  unfold doN
  cases wide
  · go_enter Tryz.func14, Tryz.ntmps14
    go_wp2_with fail
    refine HTB.out.mono ?_
    rintro e w1 ⟨rfl, hk⟩
    go_wp2_with (first | (refine wpList_valA rfl (.field 135 (.tmp 17) 0) rfl (.agg doTab) (fun w => by kernel_rfl) ?_) | (refine wpList_valA rfl (.index 133 (.tmp 18) (.tmp 19)) rfl (.func (.func 99) #[] #[]) (fun w => by kernel_rfl) ?_))
    refine (HLA.out _).mono ?_
    rintro e w2 ⟨rfl, rfl⟩
    go_wp2_with fail
    refine (HLB.out _).mono ?_
    rintro e w2 ⟨rfl, rfl⟩
    go_wp2_with fail
    refine (HN.out _).mono ?_
    rintro e w2 ⟨rfl, rfl⟩
    go_wp2_with fail
    refine (HLR.out _).mono ?_
    rintro e w2 ⟨rfl, rfl⟩
    go_wp2_with fail
    go_ret2
    exact ⟨rfl, hk⟩
  · go_enter Tryz.func14, Tryz.ntmps14
    go_wp2_with fail
    refine HTB.out.mono ?_
    rintro e w1 ⟨rfl, hk⟩
    go_wp2_with (first | (refine wpList_valA rfl (.field 135 (.tmp 17) 0) rfl (.agg doTab) (fun w => by kernel_rfl) ?_) | (refine wpList_valA rfl (.index 133 (.tmp 18) (.tmp 19)) rfl (.func (.func 99) #[] #[]) (fun w => by kernel_rfl) ?_))
    refine (HW.out _).mono ?_
    rintro e w2 ⟨rfl, rfl⟩
    go_wp2_with fail
    go_ret2
    exact ⟨rfl, hk⟩
set_option maxHeartbeats 2000000 in
set_option maxRecDepth 100000 in
theorem do_7 (wide : Bool) (a b : Nat) (w : World) (ha : a < 18446744073709551616) (hb : b < 18446744073709551616) : Calls Tryz.prog 14 #[.int .i64 7, .bool wide, .int .u64 a, .int .u64 b] w fun e w' => e = .returned (.tuple #[.int .u64 ((doN 7 wide a b : Nat) : Int), .bool true]) ∧ Kept (fun _ => False) w w' := by
  have HTB := Lib.hid (tabled_any w)
  have HW := Lib.hid (fun W => a_rsh a b 64 W ha hb (.inr rfl) (by omega))
  have HN := Lib.hid (fun W => a_rsh (a % 4294967296) (b % 4294967296) 32 W (by omega) (by omega) (.inl rfl) (by omega))
  have HLA := Lib.hid (fun W => alow_any a W ha)
  have HLB := Lib.hid (fun W => alow_any b W hb)
  have HLR := Lib.hid (fun W => alow_any (aluN 7 32 (a % 4294967296) (b % 4294967296)) W (alu_lt _ _ _ _ (.inl rfl) (by omega) (by omega) (by omega)))
  unfold doN
  cases wide
  · go_enter Tryz.func14, Tryz.ntmps14
    go_wp2_with fail
    refine HTB.out.mono ?_
    rintro e w1 ⟨rfl, hk⟩
    go_wp2_with (first | (refine wpList_valA rfl (.field 135 (.tmp 17) 0) rfl (.agg doTab) (fun w => by kernel_rfl) ?_) | (refine wpList_valA rfl (.index 133 (.tmp 18) (.tmp 19)) rfl (.func (.func 100) #[] #[]) (fun w => by kernel_rfl) ?_))
    refine (HLA.out _).mono ?_
    rintro e w2 ⟨rfl, rfl⟩
    go_wp2_with fail
    refine (HLB.out _).mono ?_
    rintro e w2 ⟨rfl, rfl⟩
    go_wp2_with fail
    refine (HN.out _).mono ?_
    rintro e w2 ⟨rfl, rfl⟩
    go_wp2_with fail
    refine (HLR.out _).mono ?_
    rintro e w2 ⟨rfl, rfl⟩
    go_wp2_with fail
    go_ret2
    exact ⟨rfl, hk⟩
  · go_enter Tryz.func14, Tryz.ntmps14
    go_wp2_with fail
    refine HTB.out.mono ?_
    rintro e w1 ⟨rfl, hk⟩
    go_wp2_with (first | (refine wpList_valA rfl (.field 135 (.tmp 17) 0) rfl (.agg doTab) (fun w => by kernel_rfl) ?_) | (refine wpList_valA rfl (.index 133 (.tmp 18) (.tmp 19)) rfl (.func (.func 100) #[] #[]) (fun w => by kernel_rfl) ?_))
    refine (HW.out _).mono ?_
    rintro e w2 ⟨rfl, rfl⟩
    go_wp2_with fail
    go_ret2
    exact ⟨rfl, hk⟩
set_option maxHeartbeats 2000000 in
set_option maxRecDepth 100000 in
theorem do_8 (wide : Bool) (a b : Nat) (w : World) (ha : a < 18446744073709551616) (hb : b < 18446744073709551616) : Calls Tryz.prog 14 #[.int .i64 8, .bool wide, .int .u64 a, .int .u64 b] w fun e w' => e = .returned (.tuple #[.int .u64 ((doN 8 wide a b : Nat) : Int), .bool true]) ∧ Kept (fun _ => False) w w' := by
  have HTB := Lib.hid (tabled_any w)
  have HW := Lib.hid (fun W => a_neg a b 64 W ha hb (.inr rfl) (by omega))
  have HN := Lib.hid (fun W => a_neg (a % 4294967296) (b % 4294967296) 32 W (by omega) (by omega) (.inl rfl) (by omega))
  have HLA := Lib.hid (fun W => alow_any a W ha)
  have HLB := Lib.hid (fun W => alow_any b W hb)
  have HLR := Lib.hid (fun W => alow_any (aluN 8 32 (a % 4294967296) (b % 4294967296)) W (alu_lt _ _ _ _ (.inl rfl) (by omega) (by omega) (by omega)))
  unfold doN
  cases wide
  · go_enter Tryz.func14, Tryz.ntmps14
    go_wp2_with fail
    refine HTB.out.mono ?_
    rintro e w1 ⟨rfl, hk⟩
    go_wp2_with (first | (refine wpList_valA rfl (.field 135 (.tmp 17) 0) rfl (.agg doTab) (fun w => by kernel_rfl) ?_) | (refine wpList_valA rfl (.index 133 (.tmp 18) (.tmp 19)) rfl (.func (.func 101) #[] #[]) (fun w => by kernel_rfl) ?_))
    refine (HLA.out _).mono ?_
    rintro e w2 ⟨rfl, rfl⟩
    go_wp2_with fail
    refine (HLB.out _).mono ?_
    rintro e w2 ⟨rfl, rfl⟩
    go_wp2_with fail
    refine (HN.out _).mono ?_
    rintro e w2 ⟨rfl, rfl⟩
    go_wp2_with fail
    refine (HLR.out _).mono ?_
    rintro e w2 ⟨rfl, rfl⟩
    go_wp2_with fail
    go_ret2
    exact ⟨rfl, hk⟩
  · go_enter Tryz.func14, Tryz.ntmps14
    go_wp2_with fail
    refine HTB.out.mono ?_
    rintro e w1 ⟨rfl, hk⟩
    go_wp2_with (first | (refine wpList_valA rfl (.field 135 (.tmp 17) 0) rfl (.agg doTab) (fun w => by kernel_rfl) ?_) | (refine wpList_valA rfl (.index 133 (.tmp 18) (.tmp 19)) rfl (.func (.func 101) #[] #[]) (fun w => by kernel_rfl) ?_))
    refine (HW.out _).mono ?_
    rintro e w2 ⟨rfl, rfl⟩
    go_wp2_with fail
    go_ret2
    exact ⟨rfl, hk⟩
set_option maxHeartbeats 2000000 in
set_option maxRecDepth 100000 in
theorem do_9 (wide : Bool) (a b : Nat) (w : World) (ha : a < 18446744073709551616) (hb : b < 18446744073709551616) : Calls Tryz.prog 14 #[.int .i64 9, .bool wide, .int .u64 a, .int .u64 b] w fun e w' => e = .returned (.tuple #[.int .u64 ((doN 9 wide a b : Nat) : Int), .bool true]) ∧ Kept (fun _ => False) w w' := by
  have HTB := Lib.hid (tabled_any w)
  have HW := Lib.hid (fun W => a_mod a b 64 W ha hb (.inr rfl) (by omega))
  have HN := Lib.hid (fun W => a_mod (a % 4294967296) (b % 4294967296) 32 W (by omega) (by omega) (.inl rfl) (by omega))
  have HLA := Lib.hid (fun W => alow_any a W ha)
  have HLB := Lib.hid (fun W => alow_any b W hb)
  have HLR := Lib.hid (fun W => alow_any (aluN 9 32 (a % 4294967296) (b % 4294967296)) W (alu_lt _ _ _ _ (.inl rfl) (by omega) (by omega) (by omega)))
  unfold doN
  cases wide
  · go_enter Tryz.func14, Tryz.ntmps14
    go_wp2_with fail
    refine HTB.out.mono ?_
    rintro e w1 ⟨rfl, hk⟩
    go_wp2_with (first | (refine wpList_valA rfl (.field 135 (.tmp 17) 0) rfl (.agg doTab) (fun w => by kernel_rfl) ?_) | (refine wpList_valA rfl (.index 133 (.tmp 18) (.tmp 19)) rfl (.func (.func 102) #[] #[]) (fun w => by kernel_rfl) ?_))
    refine (HLA.out _).mono ?_
    rintro e w2 ⟨rfl, rfl⟩
    go_wp2_with fail
    refine (HLB.out _).mono ?_
    rintro e w2 ⟨rfl, rfl⟩
    go_wp2_with fail
    refine (HN.out _).mono ?_
    rintro e w2 ⟨rfl, rfl⟩
    go_wp2_with fail
    refine (HLR.out _).mono ?_
    rintro e w2 ⟨rfl, rfl⟩
    go_wp2_with fail
    go_ret2
    exact ⟨rfl, hk⟩
  · go_enter Tryz.func14, Tryz.ntmps14
    go_wp2_with fail
    refine HTB.out.mono ?_
    rintro e w1 ⟨rfl, hk⟩
    go_wp2_with (first | (refine wpList_valA rfl (.field 135 (.tmp 17) 0) rfl (.agg doTab) (fun w => by kernel_rfl) ?_) | (refine wpList_valA rfl (.index 133 (.tmp 18) (.tmp 19)) rfl (.func (.func 102) #[] #[]) (fun w => by kernel_rfl) ?_))
    refine (HW.out _).mono ?_
    rintro e w2 ⟨rfl, rfl⟩
    go_wp2_with fail
    go_ret2
    exact ⟨rfl, hk⟩
set_option maxHeartbeats 2000000 in
set_option maxRecDepth 100000 in
theorem do_10 (wide : Bool) (a b : Nat) (w : World) (ha : a < 18446744073709551616) (hb : b < 18446744073709551616) : Calls Tryz.prog 14 #[.int .i64 10, .bool wide, .int .u64 a, .int .u64 b] w fun e w' => e = .returned (.tuple #[.int .u64 ((doN 10 wide a b : Nat) : Int), .bool true]) ∧ Kept (fun _ => False) w w' := by
  have HTB := Lib.hid (tabled_any w)
  have HW := Lib.hid (fun W => a_xor a b 64 W ha hb (.inr rfl) (by omega))
  have HN := Lib.hid (fun W => a_xor (a % 4294967296) (b % 4294967296) 32 W (by omega) (by omega) (.inl rfl) (by omega))
  have HLA := Lib.hid (fun W => alow_any a W ha)
  have HLB := Lib.hid (fun W => alow_any b W hb)
  have HLR := Lib.hid (fun W => alow_any (aluN 10 32 (a % 4294967296) (b % 4294967296)) W (alu_lt _ _ _ _ (.inl rfl) (by omega) (by omega) (by omega)))
  unfold doN
  cases wide
  · go_enter Tryz.func14, Tryz.ntmps14
    go_wp2_with fail
    refine HTB.out.mono ?_
    rintro e w1 ⟨rfl, hk⟩
    go_wp2_with (first | (refine wpList_valA rfl (.field 135 (.tmp 17) 0) rfl (.agg doTab) (fun w => by kernel_rfl) ?_) | (refine wpList_valA rfl (.index 133 (.tmp 18) (.tmp 19)) rfl (.func (.func 103) #[] #[]) (fun w => by kernel_rfl) ?_))
    refine (HLA.out _).mono ?_
    rintro e w2 ⟨rfl, rfl⟩
    go_wp2_with fail
    refine (HLB.out _).mono ?_
    rintro e w2 ⟨rfl, rfl⟩
    go_wp2_with fail
    refine (HN.out _).mono ?_
    rintro e w2 ⟨rfl, rfl⟩
    go_wp2_with fail
    refine (HLR.out _).mono ?_
    rintro e w2 ⟨rfl, rfl⟩
    go_wp2_with fail
    go_ret2
    exact ⟨rfl, hk⟩
  · go_enter Tryz.func14, Tryz.ntmps14
    go_wp2_with fail
    refine HTB.out.mono ?_
    rintro e w1 ⟨rfl, hk⟩
    go_wp2_with (first | (refine wpList_valA rfl (.field 135 (.tmp 17) 0) rfl (.agg doTab) (fun w => by kernel_rfl) ?_) | (refine wpList_valA rfl (.index 133 (.tmp 18) (.tmp 19)) rfl (.func (.func 103) #[] #[]) (fun w => by kernel_rfl) ?_))
    refine (HW.out _).mono ?_
    rintro e w2 ⟨rfl, rfl⟩
    go_wp2_with fail
    go_ret2
    exact ⟨rfl, hk⟩
set_option maxHeartbeats 2000000 in
set_option maxRecDepth 100000 in
theorem do_11 (wide : Bool) (a b : Nat) (w : World) (ha : a < 18446744073709551616) (hb : b < 18446744073709551616) : Calls Tryz.prog 14 #[.int .i64 11, .bool wide, .int .u64 a, .int .u64 b] w fun e w' => e = .returned (.tuple #[.int .u64 ((doN 11 wide a b : Nat) : Int), .bool true]) ∧ Kept (fun _ => False) w w' := by
  have HTB := Lib.hid (tabled_any w)
  have HW := Lib.hid (fun W => a_mov a b 64 W ha hb (.inr rfl) (by omega))
  have HN := Lib.hid (fun W => a_mov (a % 4294967296) (b % 4294967296) 32 W (by omega) (by omega) (.inl rfl) (by omega))
  have HLA := Lib.hid (fun W => alow_any a W ha)
  have HLB := Lib.hid (fun W => alow_any b W hb)
  have HLR := Lib.hid (fun W => alow_any (aluN 11 32 (a % 4294967296) (b % 4294967296)) W (alu_lt _ _ _ _ (.inl rfl) (by omega) (by omega) (by omega)))
  unfold doN
  cases wide
  · go_enter Tryz.func14, Tryz.ntmps14
    go_wp2_with fail
    refine HTB.out.mono ?_
    rintro e w1 ⟨rfl, hk⟩
    go_wp2_with (first | (refine wpList_valA rfl (.field 135 (.tmp 17) 0) rfl (.agg doTab) (fun w => by kernel_rfl) ?_) | (refine wpList_valA rfl (.index 133 (.tmp 18) (.tmp 19)) rfl (.func (.func 104) #[] #[]) (fun w => by kernel_rfl) ?_))
    refine (HLA.out _).mono ?_
    rintro e w2 ⟨rfl, rfl⟩
    go_wp2_with fail
    refine (HLB.out _).mono ?_
    rintro e w2 ⟨rfl, rfl⟩
    go_wp2_with fail
    refine (HN.out _).mono ?_
    rintro e w2 ⟨rfl, rfl⟩
    go_wp2_with fail
    refine (HLR.out _).mono ?_
    rintro e w2 ⟨rfl, rfl⟩
    go_wp2_with fail
    go_ret2
    exact ⟨rfl, hk⟩
  · go_enter Tryz.func14, Tryz.ntmps14
    go_wp2_with fail
    refine HTB.out.mono ?_
    rintro e w1 ⟨rfl, hk⟩
    go_wp2_with (first | (refine wpList_valA rfl (.field 135 (.tmp 17) 0) rfl (.agg doTab) (fun w => by kernel_rfl) ?_) | (refine wpList_valA rfl (.index 133 (.tmp 18) (.tmp 19)) rfl (.func (.func 104) #[] #[]) (fun w => by kernel_rfl) ?_))
    refine (HW.out _).mono ?_
    rintro e w2 ⟨rfl, rfl⟩
    go_wp2_with fail
    go_ret2
    exact ⟨rfl, hk⟩
set_option maxHeartbeats 2000000 in
set_option maxRecDepth 100000 in
theorem do_12 (wide : Bool) (a b : Nat) (w : World) (ha : a < 18446744073709551616) (hb : b < 18446744073709551616) : Calls Tryz.prog 14 #[.int .i64 12, .bool wide, .int .u64 a, .int .u64 b] w fun e w' => e = .returned (.tuple #[.int .u64 ((doN 12 wide a b : Nat) : Int), .bool true]) ∧ Kept (fun _ => False) w w' := by
  have HTB := Lib.hid (tabled_any w)
  have HW := Lib.hid (fun W => a_arsh a b 64 W ha hb (.inr rfl) (by omega))
  have HN := Lib.hid (fun W => a_arsh (a % 4294967296) (b % 4294967296) 32 W (by omega) (by omega) (.inl rfl) (by omega))
  have HLA := Lib.hid (fun W => alow_any a W ha)
  have HLB := Lib.hid (fun W => alow_any b W hb)
  have HLR := Lib.hid (fun W => alow_any (aluN 12 32 (a % 4294967296) (b % 4294967296)) W (alu_lt _ _ _ _ (.inl rfl) (by omega) (by omega) (by omega)))
  unfold doN
  cases wide
  · go_enter Tryz.func14, Tryz.ntmps14
    go_wp2_with fail
    refine HTB.out.mono ?_
    rintro e w1 ⟨rfl, hk⟩
    go_wp2_with (first | (refine wpList_valA rfl (.field 135 (.tmp 17) 0) rfl (.agg doTab) (fun w => by kernel_rfl) ?_) | (refine wpList_valA rfl (.index 133 (.tmp 18) (.tmp 19)) rfl (.func (.func 105) #[] #[]) (fun w => by kernel_rfl) ?_))
    refine (HLA.out _).mono ?_
    rintro e w2 ⟨rfl, rfl⟩
    go_wp2_with fail
    refine (HLB.out _).mono ?_
    rintro e w2 ⟨rfl, rfl⟩
    go_wp2_with fail
    refine (HN.out _).mono ?_
    rintro e w2 ⟨rfl, rfl⟩
    go_wp2_with fail
    refine (HLR.out _).mono ?_
    rintro e w2 ⟨rfl, rfl⟩
    go_wp2_with fail
    go_ret2
    exact ⟨rfl, hk⟩
  · go_enter Tryz.func14, Tryz.ntmps14
    go_wp2_with fail
    refine HTB.out.mono ?_
    rintro e w1 ⟨rfl, hk⟩
    go_wp2_with (first | (refine wpList_valA rfl (.field 135 (.tmp 17) 0) rfl (.agg doTab) (fun w => by kernel_rfl) ?_) | (refine wpList_valA rfl (.index 133 (.tmp 18) (.tmp 19)) rfl (.func (.func 105) #[] #[]) (fun w => by kernel_rfl) ?_))
    refine (HW.out _).mono ?_
    rintro e w2 ⟨rfl, rfl⟩
    go_wp2_with fail
    go_ret2
    exact ⟨rfl, hk⟩

end Go.Proofs.YtdchmelgaljpfaaGreat

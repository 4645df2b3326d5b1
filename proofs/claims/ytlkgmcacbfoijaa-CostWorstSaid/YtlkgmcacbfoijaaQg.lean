import Derived.Test.YtlkgmcacbfoijaaQf
set_option linter.unusedSimpArgs false
set_option linter.unusedVariables false
namespace Go.Proofs.Ytlkgmcacbfoijaa
open Go.RowKit

/-! ### signs -/
def cmpS (k : Nat) : List UInt8 := match k with
  | 0 => []
  | 1 => [61, 61]
  | 2 => [62]
  | 3 => [62, 61]
  | 4 => [38]
  | 5 => [33, 61]
  | 6 => [115, 62]
  | 7 => [115, 62, 61]
  | 8 => []
  | 9 => []
  | 10 => [60]
  | 11 => [60, 61]
  | 12 => [115, 60]
  | 13 => [115, 60, 61]
  | _ => []
def aluS (k : Nat) : List UInt8 := match k with
  | 0 => [43, 61]
  | 1 => [45, 61]
  | 2 => [42, 61]
  | 3 => [47, 61]
  | 4 => [124, 61]
  | 5 => [38, 61]
  | 6 => [60, 60, 61]
  | 7 => [62, 62, 61]
  | 8 => []
  | 9 => [37, 61]
  | 10 => [94, 61]
  | 11 => [61]
  | 12 => [115, 62, 62, 61]
  | 13 => []
  | _ => []
set_option maxHeartbeats 2000000 in
theorem cmpSign_any0 (w : World) : Calls Try.prog 86 #[.int .i64 0] w fun e w' => e = .returned (stV (cmpS 0)) ∧ Kept (fun _ => False) w w' := by
  go_enter Try.func86, Try.ntmps86
  go_wp2_with fail
  go_ret
  exact ⟨rfl, (Kept.refl _ w).alloc _⟩
set_option maxHeartbeats 2000000 in
theorem cmpSign_any1 (w : World) : Calls Try.prog 86 #[.int .i64 1] w fun e w' => e = .returned (stV (cmpS 1)) ∧ Kept (fun _ => False) w w' := by
  go_enter Try.func86, Try.ntmps86
  go_wp2_with fail
  go_ret
  exact ⟨rfl, (Kept.refl _ w).alloc _⟩
set_option maxHeartbeats 2000000 in
theorem cmpSign_any2 (w : World) : Calls Try.prog 86 #[.int .i64 2] w fun e w' => e = .returned (stV (cmpS 2)) ∧ Kept (fun _ => False) w w' := by
  go_enter Try.func86, Try.ntmps86
  go_wp2_with fail
  go_ret
  exact ⟨rfl, (Kept.refl _ w).alloc _⟩
set_option maxHeartbeats 2000000 in
theorem cmpSign_any3 (w : World) : Calls Try.prog 86 #[.int .i64 3] w fun e w' => e = .returned (stV (cmpS 3)) ∧ Kept (fun _ => False) w w' := by
  go_enter Try.func86, Try.ntmps86
  go_wp2_with fail
  go_ret
  exact ⟨rfl, (Kept.refl _ w).alloc _⟩
set_option maxHeartbeats 2000000 in
theorem cmpSign_any4 (w : World) : Calls Try.prog 86 #[.int .i64 4] w fun e w' => e = .returned (stV (cmpS 4)) ∧ Kept (fun _ => False) w w' := by
  go_enter Try.func86, Try.ntmps86
  go_wp2_with fail
  go_ret
  exact ⟨rfl, (Kept.refl _ w).alloc _⟩
set_option maxHeartbeats 2000000 in
theorem cmpSign_any5 (w : World) : Calls Try.prog 86 #[.int .i64 5] w fun e w' => e = .returned (stV (cmpS 5)) ∧ Kept (fun _ => False) w w' := by
  go_enter Try.func86, Try.ntmps86
  go_wp2_with fail
  go_ret
  exact ⟨rfl, (Kept.refl _ w).alloc _⟩
set_option maxHeartbeats 2000000 in
theorem cmpSign_any6 (w : World) : Calls Try.prog 86 #[.int .i64 6] w fun e w' => e = .returned (stV (cmpS 6)) ∧ Kept (fun _ => False) w w' := by
  go_enter Try.func86, Try.ntmps86
  go_wp2_with fail
  go_ret
  exact ⟨rfl, (Kept.refl _ w).alloc _⟩
set_option maxHeartbeats 2000000 in
theorem cmpSign_any7 (w : World) : Calls Try.prog 86 #[.int .i64 7] w fun e w' => e = .returned (stV (cmpS 7)) ∧ Kept (fun _ => False) w w' := by
  go_enter Try.func86, Try.ntmps86
  go_wp2_with fail
  go_ret
  exact ⟨rfl, (Kept.refl _ w).alloc _⟩
set_option maxHeartbeats 2000000 in
theorem cmpSign_any8 (w : World) : Calls Try.prog 86 #[.int .i64 8] w fun e w' => e = .returned (stV (cmpS 8)) ∧ Kept (fun _ => False) w w' := by
  go_enter Try.func86, Try.ntmps86
  go_wp2_with fail
  go_ret
  exact ⟨rfl, (Kept.refl _ w).alloc _⟩
set_option maxHeartbeats 2000000 in
theorem cmpSign_any9 (w : World) : Calls Try.prog 86 #[.int .i64 9] w fun e w' => e = .returned (stV (cmpS 9)) ∧ Kept (fun _ => False) w w' := by
  go_enter Try.func86, Try.ntmps86
  go_wp2_with fail
  go_ret
  exact ⟨rfl, (Kept.refl _ w).alloc _⟩
set_option maxHeartbeats 2000000 in
theorem cmpSign_any10 (w : World) : Calls Try.prog 86 #[.int .i64 10] w fun e w' => e = .returned (stV (cmpS 10)) ∧ Kept (fun _ => False) w w' := by
  go_enter Try.func86, Try.ntmps86
  go_wp2_with fail
  go_ret
  exact ⟨rfl, (Kept.refl _ w).alloc _⟩
set_option maxHeartbeats 2000000 in
theorem cmpSign_any11 (w : World) : Calls Try.prog 86 #[.int .i64 11] w fun e w' => e = .returned (stV (cmpS 11)) ∧ Kept (fun _ => False) w w' := by
  go_enter Try.func86, Try.ntmps86
  go_wp2_with fail
  go_ret
  exact ⟨rfl, (Kept.refl _ w).alloc _⟩
set_option maxHeartbeats 2000000 in
theorem cmpSign_any12 (w : World) : Calls Try.prog 86 #[.int .i64 12] w fun e w' => e = .returned (stV (cmpS 12)) ∧ Kept (fun _ => False) w w' := by
  go_enter Try.func86, Try.ntmps86
  go_wp2_with fail
  go_ret
  exact ⟨rfl, (Kept.refl _ w).alloc _⟩
set_option maxHeartbeats 2000000 in
theorem cmpSign_any13 (w : World) : Calls Try.prog 86 #[.int .i64 13] w fun e w' => e = .returned (stV (cmpS 13)) ∧ Kept (fun _ => False) w w' := by
  go_enter Try.func86, Try.ntmps86
  go_wp2_with fail
  go_ret
  exact ⟨rfl, (Kept.refl _ w).alloc _⟩
theorem cmpSign_any (k : Nat) (h : k ≤ 13) (w : World) : Calls Try.prog 86 #[.int .i64 k] w fun e w' => e = .returned (stV (cmpS k)) ∧ Kept (fun _ => False) w w' := by
  rcases (by omega : k = 0 ∨ k = 1 ∨ k = 2 ∨ k = 3 ∨ k = 4 ∨ k = 5 ∨ k = 6 ∨ k = 7 ∨ k = 8 ∨ k = 9 ∨ k = 10 ∨ k = 11 ∨ k = 12 ∨ k = 13) with rfl | rfl | rfl | rfl | rfl | rfl | rfl | rfl | rfl | rfl | rfl | rfl | rfl | rfl
  · exact cmpSign_any0 w
  · exact cmpSign_any1 w
  · exact cmpSign_any2 w
  · exact cmpSign_any3 w
  · exact cmpSign_any4 w
  · exact cmpSign_any5 w
  · exact cmpSign_any6 w
  · exact cmpSign_any7 w
  · exact cmpSign_any8 w
  · exact cmpSign_any9 w
  · exact cmpSign_any10 w
  · exact cmpSign_any11 w
  · exact cmpSign_any12 w
  · exact cmpSign_any13 w
set_option maxHeartbeats 2000000 in
theorem aluSign_any0 (w : World) : Calls Try.prog 89 #[.int .i64 0] w fun e w' => e = .returned (stV (aluS 0)) ∧ Kept (fun _ => False) w w' := by
  go_enter Try.func89, Try.ntmps89
  go_wp2_with fail
  go_ret
  exact ⟨rfl, (Kept.refl _ w).alloc _⟩
set_option maxHeartbeats 2000000 in
theorem aluSign_any1 (w : World) : Calls Try.prog 89 #[.int .i64 1] w fun e w' => e = .returned (stV (aluS 1)) ∧ Kept (fun _ => False) w w' := by
  go_enter Try.func89, Try.ntmps89
  go_wp2_with fail
  go_ret
  exact ⟨rfl, (Kept.refl _ w).alloc _⟩
set_option maxHeartbeats 2000000 in
theorem aluSign_any2 (w : World) : Calls Try.prog 89 #[.int .i64 2] w fun e w' => e = .returned (stV (aluS 2)) ∧ Kept (fun _ => False) w w' := by
  go_enter Try.func89, Try.ntmps89
  go_wp2_with fail
  go_ret
  exact ⟨rfl, (Kept.refl _ w).alloc _⟩
set_option maxHeartbeats 2000000 in
theorem aluSign_any3 (w : World) : Calls Try.prog 89 #[.int .i64 3] w fun e w' => e = .returned (stV (aluS 3)) ∧ Kept (fun _ => False) w w' := by
  go_enter Try.func89, Try.ntmps89
  go_wp2_with fail
  go_ret
  exact ⟨rfl, (Kept.refl _ w).alloc _⟩
set_option maxHeartbeats 2000000 in
theorem aluSign_any4 (w : World) : Calls Try.prog 89 #[.int .i64 4] w fun e w' => e = .returned (stV (aluS 4)) ∧ Kept (fun _ => False) w w' := by
  go_enter Try.func89, Try.ntmps89
  go_wp2_with fail
  go_ret
  exact ⟨rfl, (Kept.refl _ w).alloc _⟩
set_option maxHeartbeats 2000000 in
theorem aluSign_any5 (w : World) : Calls Try.prog 89 #[.int .i64 5] w fun e w' => e = .returned (stV (aluS 5)) ∧ Kept (fun _ => False) w w' := by
  go_enter Try.func89, Try.ntmps89
  go_wp2_with fail
  go_ret
  exact ⟨rfl, (Kept.refl _ w).alloc _⟩
set_option maxHeartbeats 2000000 in
theorem aluSign_any6 (w : World) : Calls Try.prog 89 #[.int .i64 6] w fun e w' => e = .returned (stV (aluS 6)) ∧ Kept (fun _ => False) w w' := by
  go_enter Try.func89, Try.ntmps89
  go_wp2_with fail
  go_ret
  exact ⟨rfl, (Kept.refl _ w).alloc _⟩
set_option maxHeartbeats 2000000 in
theorem aluSign_any7 (w : World) : Calls Try.prog 89 #[.int .i64 7] w fun e w' => e = .returned (stV (aluS 7)) ∧ Kept (fun _ => False) w w' := by
  go_enter Try.func89, Try.ntmps89
  go_wp2_with fail
  go_ret
  exact ⟨rfl, (Kept.refl _ w).alloc _⟩
set_option maxHeartbeats 2000000 in
theorem aluSign_any8 (w : World) : Calls Try.prog 89 #[.int .i64 8] w fun e w' => e = .returned (stV (aluS 8)) ∧ Kept (fun _ => False) w w' := by
  go_enter Try.func89, Try.ntmps89
  go_wp2_with fail
  go_ret
  exact ⟨rfl, (Kept.refl _ w).alloc _⟩
set_option maxHeartbeats 2000000 in
theorem aluSign_any9 (w : World) : Calls Try.prog 89 #[.int .i64 9] w fun e w' => e = .returned (stV (aluS 9)) ∧ Kept (fun _ => False) w w' := by
  go_enter Try.func89, Try.ntmps89
  go_wp2_with fail
  go_ret
  exact ⟨rfl, (Kept.refl _ w).alloc _⟩
set_option maxHeartbeats 2000000 in
theorem aluSign_any10 (w : World) : Calls Try.prog 89 #[.int .i64 10] w fun e w' => e = .returned (stV (aluS 10)) ∧ Kept (fun _ => False) w w' := by
  go_enter Try.func89, Try.ntmps89
  go_wp2_with fail
  go_ret
  exact ⟨rfl, (Kept.refl _ w).alloc _⟩
set_option maxHeartbeats 2000000 in
theorem aluSign_any11 (w : World) : Calls Try.prog 89 #[.int .i64 11] w fun e w' => e = .returned (stV (aluS 11)) ∧ Kept (fun _ => False) w w' := by
  go_enter Try.func89, Try.ntmps89
  go_wp2_with fail
  go_ret
  exact ⟨rfl, (Kept.refl _ w).alloc _⟩
set_option maxHeartbeats 2000000 in
theorem aluSign_any12 (w : World) : Calls Try.prog 89 #[.int .i64 12] w fun e w' => e = .returned (stV (aluS 12)) ∧ Kept (fun _ => False) w w' := by
  go_enter Try.func89, Try.ntmps89
  go_wp2_with fail
  go_ret
  exact ⟨rfl, (Kept.refl _ w).alloc _⟩
set_option maxHeartbeats 2000000 in
theorem aluSign_any13 (w : World) : Calls Try.prog 89 #[.int .i64 13] w fun e w' => e = .returned (stV (aluS 13)) ∧ Kept (fun _ => False) w w' := by
  go_enter Try.func89, Try.ntmps89
  go_wp2_with fail
  go_ret
  exact ⟨rfl, (Kept.refl _ w).alloc _⟩
theorem aluSign_any (k : Nat) (h : k ≤ 13) (w : World) : Calls Try.prog 89 #[.int .i64 k] w fun e w' => e = .returned (stV (aluS k)) ∧ Kept (fun _ => False) w w' := by
  rcases (by omega : k = 0 ∨ k = 1 ∨ k = 2 ∨ k = 3 ∨ k = 4 ∨ k = 5 ∨ k = 6 ∨ k = 7 ∨ k = 8 ∨ k = 9 ∨ k = 10 ∨ k = 11 ∨ k = 12 ∨ k = 13) with rfl | rfl | rfl | rfl | rfl | rfl | rfl | rfl | rfl | rfl | rfl | rfl | rfl | rfl
  · exact aluSign_any0 w
  · exact aluSign_any1 w
  · exact aluSign_any2 w
  · exact aluSign_any3 w
  · exact aluSign_any4 w
  · exact aluSign_any5 w
  · exact aluSign_any6 w
  · exact aluSign_any7 w
  · exact aluSign_any8 w
  · exact aluSign_any9 w
  · exact aluSign_any10 w
  · exact aluSign_any11 w
  · exact aluSign_any12 w
  · exact aluSign_any13 w

end Go.Proofs.Ytlkgmcacbfoijaa

import Derived.Test.YtopdoanfpjaehaaJo
import Derived.Test.YtopdoanfpjaehaaJp
set_option linter.unusedSimpArgs false
set_option linter.unusedVariables false
namespace Go.Proofs.Ytopdoanfpjaehaa
open Go.RowKit

/-! ### registers as rows of bits -/
def bitN (n : Int) : Nat := 2 ^ n.toNat
theorem bitN_lt {n : Int} (h : n ≤ 10) : bitN n < 2048 := by
  unfold bitN
  have h2 : n.toNat ≤ 10 := by omega
  have := Nat.pow_le_pow_right (n := 2) (by omega) h2
  omega
theorem eleven {n : Int} (h : 0 ≤ n ∧ n ≤ 10) : n = 0 ∨ n = 1 ∨ n = 2 ∨ n = 3 ∨ n = 4 ∨ n = 5 ∨ n = 6 ∨ n = 7 ∨ n = 8 ∨ n = 9 ∨ n = 10 := by omega
set_option maxHeartbeats 2000000 in
theorem lbit_any (n : Int) (w : World) (h : 0 ≤ n ∧ n ≤ 10) : Calls Try.prog 20 #[.int .u8 n] w fun e w' => e = .returned (.int .u16 (bitN n)) ∧ w = w' := by
  rcases eleven h with rfl | rfl | rfl | rfl | rfl | rfl | rfl | rfl | rfl | rfl | rfl
  all_goals
    go_enter Try.func20, Try.ntmps20
    go_wp2_with fail
    go_ret
    exact ⟨rfl, rfl⟩
set_option maxHeartbeats 2000000 in
theorem rbit_any (n : Int) (w : World) (h : 0 ≤ n ∧ n ≤ 10) : Calls Try.prog 27 #[.int .u8 n] w fun e w' => e = .returned (.int .u16 (bitN n)) ∧ w = w' := by
  rcases eleven h with rfl | rfl | rfl | rfl | rfl | rfl | rfl | rfl | rfl | rfl | rfl
  all_goals
    go_enter Try.func27, Try.ntmps27
    go_wp2_with fail
    go_ret
    exact ⟨rfl, rfl⟩
def secN (x : In) : Nat := if xB x = true then bitN x.src else 0
set_option maxHeartbeats 2000000 in
theorem lsecond_any (x : In) (w : World) (hx : InOk x) (hs : x.src ≤ 10) : Calls Try.prog 48 #[.agg (inVals x)] w fun e w' => e = .returned (.int .u16 (secN x)) ∧ w' = w.alloc (.cells (inVals x) 26) := by
  have h8 := and8x hx
  have HB := Lib.hid (fun W => lbit_any x.src W ⟨hx.src.1, hs⟩)
  unfold secN
  cases hb : xB x
  all_goals
    rw [hb] at h8
    simp only [if_true, if_false, Bool.false_eq_true] at h8 ⊢
    generalize bitN x.src = bs at *
    go_enter Try.func48, Try.ntmps48
    go_wp2_with (go_at_call 20; refine (HB.out _).mono ?_; rintro e w2 ⟨rfl, rfl⟩)
    go_ret
    exact ⟨rfl, rfl⟩
/-- an operation that is known, of registers that there are -/
def rightB (x : In) : Bool := knownB x && (decide (x.dst ≤ 10) && decide (x.src ≤ 10))
set_option maxHeartbeats 2000000 in
theorem lright_any (x : In) (w : World) (hx : InOk x) : Calls Try.prog 21 #[.agg (inVals x)] w fun e w' => e = .returned (.bool (rightB x)) ∧ Kept (fun _ => False) w w' := by
  have HK := Lib.hid (fun W => known1_any x W hx)
  obtain ⟨r, hr⟩ : ∃ r, rightB x = r := ⟨_, rfl⟩
  rw [hr]
  unfold rightB at hr
  generalize knownB x = kn at *
  have hBn := Blk.new w 26 (inVals x)
  have hKn : Kept (fun _ => False) w (w.alloc (.cells (inVals x) 26)) := (Kept.refl _ w).alloc _
  cases kn <;> cases h1 : decide (x.dst ≤ 10) <;> cases h2 : decide (x.src ≤ 10)
  all_goals
    simp only [h1, h2, Bool.true_and, Bool.false_and, Bool.and_true, Bool.and_false, Bool.and_self] at hr
    subst hr
    go_enter Try.func21, Try.ntmps21
    go_wp2_with fail
    refine (HK.out _).mono ?_
    rintro e w1 ⟨rfl, hk1⟩
    have hb1 := hk1.blk (fun h => h) hBn
    have x1 := hb1.cell 1
    have x2 := hb1.cell 2
    go_wp2_with fail
    go_ret
    exact ⟨rfl, hKn.trans hk1 (fun _ _ h => h)⟩
/-- what an operation writes -/
def writesN (x : In) : Nat := if writesB x = true then bitN x.dst else if (x.op == 133) = true then 63 else 0
set_option maxHeartbeats 4000000 in
theorem lwrites_any (x : In) (w : World) (hx : InOk x) (hd : x.dst ≤ 10) : Calls Try.prog 31 #[.agg (inVals x)] w fun e w' => e = .returned (.int .u16 (writesN x)) ∧ w' = w.alloc (.cells (inVals x) 26) := by
  have h7 := and7 hx.op
  have HB := Lib.hid (fun W => lbit_any x.dst W ⟨hx.dst.1, hd⟩)
  obtain ⟨r, hr⟩ : ∃ r, writesN x = r := ⟨_, rfl⟩
  rw [hr]
  unfold writesN writesB clsI at hr
  generalize bitN x.dst = bd at *
  generalize x.op % 8 = cl at *
  have hc : (cl == 0) = true ∨ (cl == 0) = false ∧ (cl == 1) = true ∨ (cl == 0) = false ∧ (cl == 1) = false ∧ (cl == 4) = true ∨ (cl == 0) = false ∧ (cl == 1) = false ∧ (cl == 4) = false ∧ (cl == 7) = true ∨ (cl == 0) = false ∧ (cl == 1) = false ∧ (cl == 4) = false ∧ (cl == 7) = false := by
    cases (cl == 0) <;> cases (cl == 1) <;> cases (cl == 4) <;> cases (cl == 7) <;> simp
  have HR := Lib.hid hr
  clear hr
  cases h133 : (x.op == 133)
  all_goals
    have h133d := h133
    rcases hc with q0 | ⟨q0, q1⟩ | ⟨q0, q1, q4⟩ | ⟨q0, q1, q4, q7⟩ | ⟨q0, q1, q4, q7⟩
    all_goals
      have hr := HR.out
      try simp only [q0] at hr
      try simp only [q1] at hr
      try simp only [q4] at hr
      try simp only [q7] at hr
      simp only [h133, Bool.true_or, Bool.false_or, Bool.or_true, Bool.or_false, Bool.or_self, if_true, if_false, Bool.false_eq_true] at hr
      subst hr
      clear HR
      go_enter Try.func31, Try.ntmps31
      go_wp2_with (go_at_call 20; refine (HB.out _).mono ?_; rintro e w2 ⟨rfl, rfl⟩)
      go_ret
      exact ⟨rfl, rfl⟩

end Go.Proofs.Ytopdoanfpjaehaa

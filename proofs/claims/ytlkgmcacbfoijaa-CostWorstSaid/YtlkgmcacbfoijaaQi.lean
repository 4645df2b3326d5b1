import Derived.Test.YtlkgmcacbfoijaaQf
import Derived.Laws.Concat
set_option linter.unusedSimpArgs false
set_option linter.unusedVariables false
namespace Go.Proofs.Ytlkgmcacbfoijaa
open Go.RowKit

/-! ### numbers as text -/
def decG : Nat → Nat → List UInt8
  | 0, _ => []
  | f + 1, n => if n < 10 then [UInt8.ofNat (48 + n)] else decG f (n / 10) ++ [UInt8.ofNat (48 + n % 10)]
def decS (n : Nat) : List UInt8 := decG 21 n
set_option maxHeartbeats 4000000 in
set_option maxRecDepth 100000 in
theorem rPlain_any (n : Nat) (w : World) (hn : n < 18446744073709551616) : Calls Try.prog 99 #[.int .u64 n] w fun e w' => e = .returned (stV (decS n)) ∧ Kept (fun _ => False) w w' := by
  go_enter Try.func99, Try.ntmps99
  go_wp2_with fail
  go_loopg [0, 3] 21 (fun k nv sv wr => ∃ (m : Nat) (s : List UInt8), nv = .int .u64 m ∧ sv = stV s ∧ decG k m ++ s = decS n ∧ m < 10 ^ k ∧ m < 18446744073709551616 ∧ 1 ≤ k ∧ s.length + k ≤ 21 ∧ Kept (fun _ => False) w wr)
  case atStart => exact ⟨n, [], rfl, rfl, by simp [decS], by omega, hn, by omega, by simp, Kept.refl _ _⟩
  case round =>
    obtain ⟨m, s, rfl, rfl, hd, hm10, hm, hk, hsl, hK⟩ := hrel
    have HD := Lib.hid hd
    have HM := Lib.hid hm10
    clear hd hm10
    have hx8 : ((UInt8.ofNat (48 + m % 10)).toNat : Int) = 48 + (m : Int) % 10 := by
      have : (UInt8.ofNat (48 + m % 10)).toNat = (48 + m % 10) % 256 := by first | exact UInt8.toNat_ofNat' | simp
      rw [this]
      omega
    have hcv : (convert 71 9 (.slice (some ⟨wr.heap.size, 0, none⟩) 1 1)).run Try.prog (wr.alloc (.cells #[.int .u8 (48 + (m : Int) % 10)] 5)) = .ok (stV [UInt8.ofNat (48 + m % 10)]) (wr.alloc (.cells #[.int .u8 (48 + (m : Int) % 10)] 5)) := by
      refine run_convert_bytes_back (P := Try.prog) _ _ _ 5 ⟨wr.heap.size, 0, none⟩ 1 [UInt8.ofNat (48 + m % 10)] Try.underlying71 Try.underlying5 Try.underlying9 (fun j hj => ?_)
      obtain rfl : j = 0 := by simpa using hj
      have hb := Blk.new wr 5 #[.int .u8 (48 + (m : Int) % 10)]
      show World.cell? _ ⟨wr.heap.size, 0, none⟩ = _
      rw [hb.cell 0]
      show some (Value.int .u8 (48 + (m : Int) % 10)) = some (Value.int .u8 ((UInt8.ofNat (48 + m % 10)).toNat : Int))
      rw [hx8]
    have hadd : ∀ W, (Op.stringOp .add ⟨[UInt8.ofNat (48 + m % 10)].toArray⟩ ⟨s.toArray⟩).run Try.prog W = .ok (stV (UInt8.ofNat (48 + m % 10) :: s)) W := fun W => by
      have := run_string_add_lists (P := Try.prog) (w := W) [UInt8.ofNat (48 + m % 10)] s (by simp) (by omega)
      exact this
    obtain ⟨k, rfl⟩ : ∃ k, gk = k + 1 := ⟨gk - 1, by omega⟩
    have HX := Lib.hid hx8
    clear hx8
    by_cases h10 : m < 10
    · have hq : (((m : Int) / 10) == 0) = true := by
        have : (m : Int) / 10 = 0 := by omega
        rw [this]
        rfl
      have HR : Hid (UInt8.ofNat (48 + m % 10) :: s = decS n) := Lib.hid (by
        rw [← HD.out]
        show _ = (if m < 10 then [UInt8.ofNat (48 + m)] else decG k (m / 10) ++ [UInt8.ofNat (48 + m % 10)]) ++ s
        rw [if_pos h10, Nat.mod_eq_of_lt h10]
        rfl)
      generalize UInt8.ofNat (48 + m % 10) = x at *
      go_wp2_with fail
      go_ret
      exact ⟨by rw [← HR.out]; rfl, hK.alloc _⟩
    · have hq : (((m : Int) / 10) == 0) = false := by
        have : (m : Int) / 10 ≠ 0 := by omega
        exact beq_eq_false_iff_ne.2 this
      have HR : Hid (decG k (m / 10) ++ (UInt8.ofNat (48 + m % 10) :: s) = decS n) := Lib.hid (by
        rw [← HD.out]
        show _ = (if m < 10 then [UInt8.ofNat (48 + m)] else decG k (m / 10) ++ [UInt8.ofNat (48 + m % 10)]) ++ s
        rw [if_neg h10, List.append_assoc]
        rfl)
      have HM2 : Hid (m / 10 < 10 ^ k ∧ 1 ≤ k) := Lib.hid (by
        have h1 := HM.out
        rw [Nat.pow_succ] at h1
        refine ⟨Nat.div_lt_of_lt_mul (by rw [Nat.mul_comm]; exact h1), ?_⟩
        rcases Nat.eq_zero_or_pos k with rfl | h
        · simp at h1; omega
        · exact h)
      generalize UInt8.ofNat (48 + m % 10) = x at *
      go_wp2_with fail
      go_roundg k
      case measure => omega
      case rel => exact ⟨m / 10, x :: s, by go_num, rfl, HR.out, HM2.out.1, by omega, HM2.out.2, by simp; omega, hK.alloc _⟩
theorem decG_len (f n : Nat) : (decG f n).length ≤ f := by
  induction f generalizing n with
  | zero => exact Nat.le_refl _
  | succ f ih =>
    show (if n < 10 then [UInt8.ofNat (48 + n)] else decG f (n / 10) ++ [UInt8.ofNat (48 + n % 10)]).length ≤ _
    split
    · simp
    · have := ih (n / 10)
      simp
      omega
def numT (n : Int) : List UInt8 := if n < 0 then 45 :: decS (-n).toNat else decS n.toNat
set_option maxHeartbeats 4000000 in
set_option maxRecDepth 100000 in
theorem rNumber_any (n : Int) (w : World) (hn : -9223372036854775808 ≤ n ∧ n ≤ 9223372036854775807) : Calls Try.prog 97 #[.int .i64 n] w fun e w' => e = .returned (stV (numT n)) ∧ Kept (fun _ => False) w w' := by
  unfold numT
  by_cases h : n < 0
  · have hd : decide (n < 0) = true := decide_eq_true h
    obtain ⟨m, rfl⟩ : ∃ m : Nat, n = -(m : Int) := ⟨(-n).toNat, by omega⟩
    rw [if_pos h, show (-(-(m : Int))).toNat = m from by omega]
    have HP := Lib.hid (fun W => rPlain_any m W (by omega))
    have hdl : (decS m).length ≤ 21 := decG_len 21 m
    have hadd : ∀ W, (Op.stringOp .add ⟨#[45]⟩ ⟨(decS m).toArray⟩).run Try.prog W = .ok (stV (45 :: decS m)) W := fun W => run_string_add_lists (P := Try.prog) (w := W) [45] (decS m) (by simp) (by omega)
    generalize decS m = s at *
    have hm : (m : Int) ≤ 9223372036854775808 := by omega
    go_enter Try.func97, Try.ntmps97
    have hw : IntKind.u64.wrap (-IntKind.u64.wrap (-(m : Int))) = m := by
      rw [IntKind.wrap_u64, IntKind.wrap_u64]
      omega
    go_wp2_with fail
    refine (HP.out _).mono ?_
    rintro e w1 ⟨rfl, hk⟩
    go_wp2_with fail
    go_ret
    exact ⟨rfl, hk⟩
  · have hd : decide (n < 0) = false := decide_eq_false h
    obtain ⟨m, rfl⟩ : ∃ m : Nat, n = (m : Int) := ⟨n.toNat, by omega⟩
    rw [if_neg h, show ((m : Int)).toNat = m from rfl]
    have HP := Lib.hid (fun W => rPlain_any m W (by omega))
    go_enter Try.func97, Try.ntmps97
    go_wp2_with fail
    refine (HP.out _).mono ?_
    rintro e w1 ⟨rfl, hk⟩
    go_wp2_with fail
    go_ret
    exact ⟨rfl, hk⟩

end Go.Proofs.Ytlkgmcacbfoijaa

import Derived.Test.YtopdoanfpjaehaaNa
import Derived.Test.YtopdoanfpjaehaaNe
set_option linter.unusedSimpArgs false
set_option linter.unusedVariables false
namespace Go.Proofs.Ytopdoanfpjaehaa
open Go.RowKit

/-! ### rows of sixteen bits -/
theorem wrap16 (x : Int) : IntKind.u16.wrap x = x % 65536 := by
  simp [IntKind.wrap, IntKind.bits, IntKind.signed]
theorem bits_or_u16_nat {a b : Nat} (ha : a < 65536) (hb : b < 65536) : bits .or .u16 (a : Int) (b : Int) = ((a ||| b : Nat) : Int) := by
  have hx : a ||| b < 2 ^ 16 := Nat.or_lt_two_pow (by omega) (by omega)
  have h1 : (BitVec.ofInt 16 (a : Int)).toNat = a := by
    rw [BitVec.ofInt_natCast, BitVec.toNat_ofNat]; exact Nat.mod_eq_of_lt (by omega)
  have h2 : (BitVec.ofInt 16 (b : Int)).toNat = b := by
    rw [BitVec.ofInt_natCast, BitVec.toNat_ofNat]; exact Nat.mod_eq_of_lt (by omega)
  show IntKind.u16.wrap ((BitVec.ofInt 16 (a : Int) ||| BitVec.ofInt 16 (b : Int)).toNat : Int) = _
  rw [BitVec.toNat_or, h1, h2, wrap16]
  omega
theorem bits_and_u16_nat {a b : Nat} (ha : a < 65536) (hb : b < 65536) : bits .and .u16 (a : Int) (b : Int) = ((a &&& b : Nat) : Int) := by
  have hx : a &&& b < 2 ^ 16 := Nat.and_lt_two_pow _ (by omega)
  have h1 : (BitVec.ofInt 16 (a : Int)).toNat = a := by
    rw [BitVec.ofInt_natCast, BitVec.toNat_ofNat]; exact Nat.mod_eq_of_lt (by omega)
  have h2 : (BitVec.ofInt 16 (b : Int)).toNat = b := by
    rw [BitVec.ofInt_natCast, BitVec.toNat_ofNat]; exact Nat.mod_eq_of_lt (by omega)
  show IntKind.u16.wrap ((BitVec.ofInt 16 (a : Int) &&& BitVec.ofInt 16 (b : Int)).toNat : Int) = _
  rw [BitVec.toNat_and, h1, h2, wrap16]
  omega
/-- a row without those of another one -/
def lessN (a b : Nat) : Nat := a &&& (65535 - b)
theorem bits_less_u16_nat {a b : Nat} (ha : a < 65536) (hb : b < 65536) : bits .andNot .u16 (a : Int) (b : Int) = ((lessN a b : Nat) : Int) := by
  unfold lessN
  have hx : a &&& (65535 - b) < 2 ^ 16 := Nat.and_lt_two_pow _ (by omega)
  have h1 : (BitVec.ofInt 16 (a : Int)).toNat = a := by
    rw [BitVec.ofInt_natCast, BitVec.toNat_ofNat]; exact Nat.mod_eq_of_lt (by omega)
  have h2 : (BitVec.ofInt 16 (b : Int)).toNat = b := by
    rw [BitVec.ofInt_natCast, BitVec.toNat_ofNat]; exact Nat.mod_eq_of_lt (by omega)
  show IntKind.u16.wrap ((BitVec.ofInt 16 (a : Int) &&& ~~~ BitVec.ofInt 16 (b : Int)).toNat : Int) = _
  rw [BitVec.toNat_and, BitVec.toNat_not, h1, h2, wrap16]
  have e : 2 ^ 16 - 1 - b = 65535 - b := by omega
  rw [e]
  omega
theorem or_lt {a b : Nat} (ha : a < 65536) (hb : b < 65536) : a ||| b < 65536 := Nat.or_lt_two_pow (n := 16) (by omega) (by omega)
theorem less_lt {a b : Nat} (ha : a < 65536) : lessN a b < 65536 := by
  unfold lessN
  exact Nat.lt_of_le_of_lt Nat.and_le_left ha
theorem secN_lt (x : In) (h : x.src ≤ 10) : secN x < 2048 := by
  unfold secN
  split
  · exact bitN_lt h
  · omega

/-! ### what a call of a helper reads -/
def argN (a0 a1 a2 a3 a4 : Int) : Nat := (((((if (a0 != 0) = true then 2 else 0) ||| (if (a1 != 0) = true then 4 else 0)) ||| (if (a2 != 0) = true then 8 else 0)) ||| (if (a3 != 0) = true then 16 else 0)) ||| (if (a4 != 0) = true then 32 else 0))
/-- the numbers of a helper's arguments -/
def cntN (n : Nat) : Nat := match n with
  | 1 => 2
  | 2 => 4
  | 3 => 2
  | 6 => 3
  | 7 => 3
  | 8 => 3
  | 9 => 2
  | 10 => 1
  | 11 => 1
  | 12 => 1
  | 13 => 3
  | 14 => 1
  | 15 => 2
  | 16 => 2
  | 17 => 2
  | 18 => 1
  | 19 => 3
  | 20 => 1
  | 21 => 1
  | 22 => 3
  | 23 => 4
  | 24 => 4
  | 25 => 3
  | 26 => 3
  | 27 => 1
  | 28 => 1
  | _ => 0
def protN (n : Int) : Nat := 2 ^ (cntN n.toNat + 1) - 2
theorem cntN_le (n : Nat) : cntN n ≤ 4 := by
  unfold cntN
  split <;> omega
theorem protN_lt (n : Int) : protN n < 65536 := by
  have h := cntN_le n.toNat
  have := Nat.pow_le_pow_right (n := 2) (by omega) (show cntN n.toNat + 1 ≤ 5 by omega)
  unfold protN
  omega
theorem prL_args (n : Nat) : ∃ nm a0 a1 a2 a3 a4 ret maps ac re, prL n = prV nm a0 a1 a2 a3 a4 ret maps ac re ∧
    (a0 != 0) = decide (0 < cntN n) ∧ (a1 != 0) = decide (1 < cntN n) ∧ (a2 != 0) = decide (2 < cntN n) ∧ (a3 != 0) = decide (3 < cntN n) ∧ (a4 != 0) = decide (4 < cntN n) := by
  unfold prL cntN
  split
  all_goals first
    | exact ⟨_, _, _, _, _, _, _, _, _, _, rfl, rfl, rfl, rfl, rfl, rfl⟩
    | (split <;> first | (exfalso; simp_all; done) | exact ⟨_, _, _, _, _, _, _, _, _, _, rfl, rfl, rfl, rfl, rfl, rfl⟩)

end Go.Proofs.Ytopdoanfpjaehaa
set_option linter.unusedSimpArgs false
set_option linter.unusedVariables false
namespace Go.Proofs.Ytopdoanfpjaehaa
open Go.RowKit

/-! ### what a jump, an exit, a call reads -/
def argP (c j : Nat) : Nat := 2 ^ (min j c + 1) - 2
theorem argP_more {c j : Nat} (h : j < c) (hc : c ≤ 4) : argP c (j + 1) = argP c j ||| bitN ((j : Int) + 1) := by
  unfold argP bitN
  have e1 : min (j + 1) c = j + 1 := by omega
  have e2 : min j c = j := by omega
  have e3 : (((j : Int) + 1)).toNat = j + 1 := by omega
  rw [e1, e2, e3]
  have : j = 0 ∨ j = 1 ∨ j = 2 ∨ j = 3 := by omega
  rcases this with rfl | rfl | rfl | rfl <;> decide
theorem argP_same {c j : Nat} (h : ¬ j < c) : argP c (j + 1) = argP c j := by
  unfold argP
  rw [show min (j + 1) c = min j c from by omega]
theorem argP_lt {c j : Nat} (hc : c ≤ 4) : argP c j < 65536 := by
  have := Nat.pow_le_pow_right (n := 2) (by omega) (show min j c + 1 ≤ 5 by omega)
  unfold argP
  omega
def jumpN (x : In) : Nat := if (x.op == 149) = true then bitN 0 else if (x.op == 5) = true then 0 else if (x.op != 133) = true then bitN x.dst ||| secN x else if (x.src == 1) = true then 62 else protN x.imm
set_option maxHeartbeats 16000000 in
set_option maxRecDepth 100000 in
theorem ljump_any (x : In) (w : World) (hx : InOk x) (hd : x.dst ≤ 10) (hs : x.src ≤ 10) : Calls Try.prog 49 #[.agg (inVals x)] w fun e w' => e = .returned (.int .u16 (jumpN x)) ∧ Kept (fun _ => False) w w' := by
  have H0 := Lib.hid (fun W => lbit_any 0 W (by omega))
  have HD := Lib.hid (fun W => lbit_any x.dst W ⟨hx.dst.1, hd⟩)
  have HS := Lib.hid (fun W => lsecond_any x W hx hs)
  have HP := Lib.hid (fun W => pOf_any x.imm W)
  have hor := bits_or_u16_nat (show bitN x.dst < 65536 by have := bitN_lt hd; omega) (show secN x < 65536 by have := secN_lt x hs; omega)
  have hbB := Blk.new w 26 (inVals x)
  have hkB : Kept (fun _ => False) w (w.alloc (.cells (inVals x) 26)) := (Kept.refl _ w).alloc _
  have him := hx.imm
  obtain ⟨r, hr⟩ : ∃ r, jumpN x = r := ⟨_, rfl⟩
  rw [hr]
  unfold jumpN at hr
  obtain ⟨bd, ebd⟩ : ∃ bd, bitN x.dst = bd := ⟨_, rfl⟩
  obtain ⟨sx, esx⟩ : ∃ sx, secN x = sx := ⟨_, rfl⟩
  rw [ebd] at hr hor HD
  rw [esx] at hr hor HS
  clear ebd esx
  have HR := Lib.hid hr
  clear hr
  cases h149 : (x.op == 149)
  case true =>
    have hr := HR.out
    simp only [h149, if_true] at hr
    subst hr
    clear HR
    go_enter Try.func49, Try.ntmps49
    go_wp2_with (go_at_call 20; refine (H0.out _).mono ?_; rintro e w2 ⟨rfl, rfl⟩)
    go_ret
    exact ⟨rfl, hkB⟩
  case false =>
  cases h5 : (x.op == 5)
  case true =>
    have hr := HR.out
    simp only [h149, h5, if_true, if_false, Bool.false_eq_true] at hr
    subst hr
    clear HR
    go_enter Try.func49, Try.ntmps49
    go_wp2_with fail
    go_ret
    exact ⟨rfl, hkB⟩
  case false =>
  cases h133 : (x.op != 133)
  case true =>
    have hr := HR.out
    simp only [h149, h5, h133, if_true, if_false, Bool.false_eq_true] at hr
    subst hr
    clear HR
    go_enter Try.func49, Try.ntmps49
    go_wp2_with fail
    refine wp_region_mix0 [.w, .l, .k, .l, .t, .w, .w] (by kernel_rfl) (by kernel_rfl) ?_
    refine mix_w1 ?_; go_big_quiet_step (fail); refine wpQuiet_nil ?_
    refine mix_l1 rfl ?_; go_big_quiet_step (fail); refine wpQuiet_nil ?_
    refine mix_k rfl fun Q' hQ' => ?_
    go_wp2_with (go_at_call 20; refine (HD.out _).mono ?_; rintro e w2 ⟨rfl, rfl⟩)
    refine hQ' _ _ rfl ?_
    clear hQ' Q'
    refine mix_l1 rfl ?_; go_big_quiet_step (fail); refine wpQuiet_nil ?_
    refine mix_t fun Q' hQ' => ?_
    go_wp2_with (go_at_call 48; refine (HS.out _).mono ?_; rintro e w2 ⟨rfl, rfl⟩)
    repeat (refine mix_w1 ?_; go_big_quiet_step (fail); refine wpQuiet_nil ?_)
    refine mix_done ?_
    go_wp2_with fail
    go_ret
    exact ⟨rfl, hkB.drew.alloc _⟩
  case false =>
  cases h1 : (x.src == 1)
  case true =>
    have hr := HR.out
    simp only [h149, h5, h133, h1, if_true, if_false, Bool.false_eq_true] at hr
    subst hr
    clear HR
    go_enter Try.func49, Try.ntmps49
    go_wp2_with fail
    go_ret
    exact ⟨rfl, hkB⟩
  case false =>
    have hr := HR.out
    simp only [h149, h5, h133, h1, if_true, if_false, Bool.false_eq_true] at hr
    subst hr
    clear HR
    obtain ⟨nm, a0, a1, a2, a3, a4, ret, maps, ac, re, hpr, ha0, ha1, ha2, ha3, ha4⟩ := prL_args x.imm.toNat
    have hc4 := cntN_le x.imm.toNat
    obtain ⟨c, hc⟩ : ∃ c, cntN x.imm.toNat = c := ⟨_, rfl⟩
    have hN : protN x.imm = argP c 5 := by
      unfold protN argP
      rw [hc, show min 5 c = c from by omega]
    rw [hN]
    rw [hc] at hc4 ha0 ha1 ha2 ha3 ha4
    rw [hpr] at HP
    have HA : Hid ((a0 != 0) = decide (0 < c) ∧ (a1 != 0) = decide (1 < c) ∧ (a2 != 0) = decide (2 < c) ∧ (a3 != 0) = decide (3 < c) ∧ (a4 != 0) = decide (4 < c)) := Lib.hid ⟨ha0, ha1, ha2, ha3, ha4⟩
    clear hc hN hpr ha0 ha1 ha2 ha3 ha4 hbB
    go_enter Try.func49, Try.ntmps49
    go_wp2_with fail
    refine (HP.out _).mono ?_
    rintro e w1 ⟨rfl, hk1⟩
    have hK1 := hkB.trans hk1 (fun _ _ h => h)
    go_wp2_with fail
    go_loopw [5, 40] (fun ov iv wr => ∃ j : Nat, ov = .int .u16 (argP c j) ∧ iv = .int .i64 j ∧ j ≤ 5 ∧ w1.alloc (.cells (prV nm a0 a1 a2 a3 a4 ret maps ac re) 63) = wr) (fun _ iv _ => 5 - (intOf iv).toNat)
    case atStart => exact ⟨0, by unfold argP; simp, rfl, by omega, rfl⟩
    case round =>
      obtain ⟨j, rfl, rfl, hj, rfl⟩ := hrel
      have hj6 : j = 0 ∨ j = 1 ∨ j = 2 ∨ j = 3 ∨ j = 4 ∨ j = 5 := by omega
      clear hj
      rcases hj6 with rfl | rfl | rfl | rfl | rfl | rfl
      · have HB := Lib.hid (fun W => lbit_any (0 + 1) W (by omega))
        have hmore := Lib.hid (@argP_more c 0)
        have hsame := Lib.hid (@argP_same c 0)
        have HX := Lib.hid (fun W => (by kernel_rfl : (Instr.index 61 (.agg #[.int .i64 a0, .int .i64 a1, .int .i64 a2, .int .i64 a3, .int .i64 a4]) (.int .i64 ((0 : Nat) : Int))).run Try.prog W = .ok (.int .i64 a0) W))
        have hq := HA.out.1
        have hor2 := bits_or_u16_nat (argP_lt (c := c) (j := 0) hc4) (show bitN (0 + 1) < 65536 by decide)
        cases hd : decide (0 < c)
        all_goals
          rw [hd] at hq
          simp only [Int.reduceAdd] at HB hor2
          go_wp2_with (first
            | (refine wpList_indexV rfl 61 _ _ rfl (.agg #[.int .i64 a0, .int .i64 a1, .int .i64 a2, .int .i64 a3, .int .i64 a4]) (.int .i64 ((0 : Nat) : Int)) (.int .i64 a0) rfl rfl HX.out ?_)
            | (go_at_call 20; refine (HB.out _).mono ?_; rintro e w2 ⟨rfl, rfl⟩))
          go_roundw
          case rel => first | exact ⟨1, congrArg (fun n : Nat => Value.int .u16 (n : Int)) (hmore.out (of_decide_eq_true hd) hc4).symm, by go_num, by omega, by first | trivial | rfl⟩ | exact ⟨1, congrArg (fun n : Nat => Value.int .u16 (n : Int)) (hsame.out (of_decide_eq_false hd)).symm, by go_num, by omega, by first | trivial | rfl⟩
          case measure => simp [intOf]
      · have HB := Lib.hid (fun W => lbit_any (1 + 1) W (by omega))
        have hmore := Lib.hid (@argP_more c 1)
        have hsame := Lib.hid (@argP_same c 1)
        have HX := Lib.hid (fun W => (by kernel_rfl : (Instr.index 61 (.agg #[.int .i64 a0, .int .i64 a1, .int .i64 a2, .int .i64 a3, .int .i64 a4]) (.int .i64 ((1 : Nat) : Int))).run Try.prog W = .ok (.int .i64 a1) W))
        have hq := HA.out.2.1
        have hor2 := bits_or_u16_nat (argP_lt (c := c) (j := 1) hc4) (show bitN (1 + 1) < 65536 by decide)
        cases hd : decide (1 < c)
        all_goals
          rw [hd] at hq
          simp only [Int.reduceAdd] at HB hor2
          go_wp2_with (first
            | (refine wpList_indexV rfl 61 _ _ rfl (.agg #[.int .i64 a0, .int .i64 a1, .int .i64 a2, .int .i64 a3, .int .i64 a4]) (.int .i64 ((1 : Nat) : Int)) (.int .i64 a1) rfl rfl HX.out ?_)
            | (go_at_call 20; refine (HB.out _).mono ?_; rintro e w2 ⟨rfl, rfl⟩))
          go_roundw
          case rel => first | exact ⟨2, congrArg (fun n : Nat => Value.int .u16 (n : Int)) (hmore.out (of_decide_eq_true hd) hc4).symm, by go_num, by omega, by first | trivial | rfl⟩ | exact ⟨2, congrArg (fun n : Nat => Value.int .u16 (n : Int)) (hsame.out (of_decide_eq_false hd)).symm, by go_num, by omega, by first | trivial | rfl⟩
          case measure => simp [intOf]
      · have HB := Lib.hid (fun W => lbit_any (2 + 1) W (by omega))
        have hmore := Lib.hid (@argP_more c 2)
        have hsame := Lib.hid (@argP_same c 2)
        have HX := Lib.hid (fun W => (by kernel_rfl : (Instr.index 61 (.agg #[.int .i64 a0, .int .i64 a1, .int .i64 a2, .int .i64 a3, .int .i64 a4]) (.int .i64 ((2 : Nat) : Int))).run Try.prog W = .ok (.int .i64 a2) W))
        have hq := HA.out.2.2.1
        have hor2 := bits_or_u16_nat (argP_lt (c := c) (j := 2) hc4) (show bitN (2 + 1) < 65536 by decide)
        cases hd : decide (2 < c)
        all_goals
          rw [hd] at hq
          simp only [Int.reduceAdd] at HB hor2
          go_wp2_with (first
            | (refine wpList_indexV rfl 61 _ _ rfl (.agg #[.int .i64 a0, .int .i64 a1, .int .i64 a2, .int .i64 a3, .int .i64 a4]) (.int .i64 ((2 : Nat) : Int)) (.int .i64 a2) rfl rfl HX.out ?_)
            | (go_at_call 20; refine (HB.out _).mono ?_; rintro e w2 ⟨rfl, rfl⟩))
          go_roundw
          case rel => first | exact ⟨3, congrArg (fun n : Nat => Value.int .u16 (n : Int)) (hmore.out (of_decide_eq_true hd) hc4).symm, by go_num, by omega, by first | trivial | rfl⟩ | exact ⟨3, congrArg (fun n : Nat => Value.int .u16 (n : Int)) (hsame.out (of_decide_eq_false hd)).symm, by go_num, by omega, by first | trivial | rfl⟩
          case measure => simp [intOf]
      · have HB := Lib.hid (fun W => lbit_any (3 + 1) W (by omega))
        have hmore := Lib.hid (@argP_more c 3)
        have hsame := Lib.hid (@argP_same c 3)
        have HX := Lib.hid (fun W => (by kernel_rfl : (Instr.index 61 (.agg #[.int .i64 a0, .int .i64 a1, .int .i64 a2, .int .i64 a3, .int .i64 a4]) (.int .i64 ((3 : Nat) : Int))).run Try.prog W = .ok (.int .i64 a3) W))
        have hq := HA.out.2.2.2.1
        have hor2 := bits_or_u16_nat (argP_lt (c := c) (j := 3) hc4) (show bitN (3 + 1) < 65536 by decide)
        cases hd : decide (3 < c)
        all_goals
          rw [hd] at hq
          simp only [Int.reduceAdd] at HB hor2
          go_wp2_with (first
            | (refine wpList_indexV rfl 61 _ _ rfl (.agg #[.int .i64 a0, .int .i64 a1, .int .i64 a2, .int .i64 a3, .int .i64 a4]) (.int .i64 ((3 : Nat) : Int)) (.int .i64 a3) rfl rfl HX.out ?_)
            | (go_at_call 20; refine (HB.out _).mono ?_; rintro e w2 ⟨rfl, rfl⟩))
          go_roundw
          case rel => first | exact ⟨4, congrArg (fun n : Nat => Value.int .u16 (n : Int)) (hmore.out (of_decide_eq_true hd) hc4).symm, by go_num, by omega, by first | trivial | rfl⟩ | exact ⟨4, congrArg (fun n : Nat => Value.int .u16 (n : Int)) (hsame.out (of_decide_eq_false hd)).symm, by go_num, by omega, by first | trivial | rfl⟩
          case measure => simp [intOf]
      · have HB := Lib.hid (fun W => lbit_any (4 + 1) W (by omega))
        have hmore := Lib.hid (@argP_more c 4)
        have hsame := Lib.hid (@argP_same c 4)
        have HX := Lib.hid (fun W => (by kernel_rfl : (Instr.index 61 (.agg #[.int .i64 a0, .int .i64 a1, .int .i64 a2, .int .i64 a3, .int .i64 a4]) (.int .i64 ((4 : Nat) : Int))).run Try.prog W = .ok (.int .i64 a4) W))
        have hq := HA.out.2.2.2.2
        have hor2 := bits_or_u16_nat (argP_lt (c := c) (j := 4) hc4) (show bitN (4 + 1) < 65536 by decide)
        cases hd : decide (4 < c)
        all_goals
          rw [hd] at hq
          simp only [Int.reduceAdd] at HB hor2
          go_wp2_with (first
            | (refine wpList_indexV rfl 61 _ _ rfl (.agg #[.int .i64 a0, .int .i64 a1, .int .i64 a2, .int .i64 a3, .int .i64 a4]) (.int .i64 ((4 : Nat) : Int)) (.int .i64 a4) rfl rfl HX.out ?_)
            | (go_at_call 20; refine (HB.out _).mono ?_; rintro e w2 ⟨rfl, rfl⟩))
          go_roundw
          case rel => first | exact ⟨5, congrArg (fun n : Nat => Value.int .u16 (n : Int)) (hmore.out (of_decide_eq_true hd) hc4).symm, by go_num, by omega, by first | trivial | rfl⟩ | exact ⟨5, congrArg (fun n : Nat => Value.int .u16 (n : Int)) (hsame.out (of_decide_eq_false hd)).symm, by go_num, by omega, by first | trivial | rfl⟩
          case measure => simp [intOf]
      · go_wp2_with fail
        go_ret
        exact ⟨rfl, hK1.alloc _⟩

end Go.Proofs.Ytopdoanfpjaehaa
set_option linter.unusedSimpArgs false
set_option linter.unusedVariables false
namespace Go.Proofs.Ytopdoanfpjaehaa
open Go.RowKit

/-! ### what an operation reads -/
def readsN (x : In) : Nat := if (clsI x == 1) = true then bitN x.src else if (clsI x == 2) = true then bitN x.dst else if (clsI x == 3) = true then bitN x.dst ||| bitN x.src
  else if (clsI x == 4 || clsI x == 7) = true then (if (codeI x == 13) = true then bitN x.dst else if (codeI x == 11) = true then secN x else bitN x.dst ||| secN x)
  else if (clsI x == 6) = true then bitN x.dst ||| secN x else if (clsI x == 0) = true then 0 else jumpN x
set_option maxHeartbeats 16000000 in
set_option maxRecDepth 100000 in
theorem lreads_any (x : In) (w : World) (hx : InOk x) (hd : x.dst ≤ 10) (hs : x.src ≤ 10) : Calls Try.prog 22 #[.agg (inVals x)] w fun e w' => e = .returned (.int .u16 (readsN x)) ∧ Kept (fun _ => False) w w' := by
  have HD := Lib.hid (fun W => lbit_any x.dst W ⟨hx.dst.1, hd⟩)
  have HS := Lib.hid (fun W => lbit_any x.src W ⟨hx.src.1, hs⟩)
  have H2 := Lib.hid (fun W => lsecond_any x W hx hs)
  have HJ := Lib.hid (fun W => ljump_any x W hx hd hs)
  have hor := bits_or_u16_nat (show bitN x.dst < 65536 by have := bitN_lt hd; omega) (show secN x < 65536 by have := secN_lt x hs; omega)
  have hor2 := bits_or_u16_nat (show bitN x.dst < 65536 by have := bitN_lt hd; omega) (show bitN x.src < 65536 by have := bitN_lt hs; omega)
  have hkB : Kept (fun _ => False) w (w.alloc (.cells (inVals x) 26)) := (Kept.refl _ w).alloc _
  have h7 := and7 hx.op
  have hxo := hx.op
  have hcs : x.op % 8 = 0 ∨ x.op % 8 = 1 ∨ x.op % 8 = 2 ∨ x.op % 8 = 3 ∨ x.op % 8 = 4 ∨ x.op % 8 = 5 ∨ x.op % 8 = 6 ∨ x.op % 8 = 7 := by omega
  obtain ⟨r, hr⟩ : ∃ r, readsN x = r := ⟨_, rfl⟩
  rw [hr]
  unfold readsN clsI codeI at hr
  obtain ⟨bd, ebd⟩ : ∃ bd, bitN x.dst = bd := ⟨_, rfl⟩
  obtain ⟨bs, ebs⟩ : ∃ bs, bitN x.src = bs := ⟨_, rfl⟩
  obtain ⟨sx, esx⟩ : ∃ sx, secN x = sx := ⟨_, rfl⟩
  obtain ⟨jx, ejx⟩ : ∃ jx, jumpN x = jx := ⟨_, rfl⟩
  rw [ebd, ebs, esx, ejx] at hr
  rw [ebd] at hor hor2 HD
  rw [ebs] at hor2 HS
  rw [esx] at hor H2
  rw [ejx] at HJ
  clear ebd ebs esx ejx
  have HR := Lib.hid hr
  clear hr
  rcases hcs with hcl | hcl | hcl | hcl | hcl | hcl | hcl | hcl
  · have hr := HR.out
    rw [hcl] at hr h7
    replace hr : 0 = r := hr
    clear HR hcl
    subst hr
    go_enter Try.func22, Try.ntmps22
    go_wp2_with fail
    go_ret
    exact ⟨rfl, hkB⟩
  · have hr := HR.out
    rw [hcl] at hr h7
    replace hr : bs = r := hr
    clear HR hcl
    subst hr
    go_enter Try.func22, Try.ntmps22
    go_wp2_with (go_at_call 20; refine (HS.out _).mono ?_; rintro e w2 ⟨rfl, rfl⟩)
    go_ret
    exact ⟨rfl, hkB⟩
  · have hr := HR.out
    rw [hcl] at hr h7
    replace hr : bd = r := hr
    clear HR hcl
    subst hr
    go_enter Try.func22, Try.ntmps22
    go_wp2_with (go_at_call 20; refine (HD.out _).mono ?_; rintro e w2 ⟨rfl, rfl⟩)
    go_ret
    exact ⟨rfl, hkB⟩
  · have hr := HR.out
    rw [hcl] at hr h7
    replace hr : (bd ||| bs) = r := hr
    clear HR hcl
    subst hr
    go_enter Try.func22, Try.ntmps22
    go_wp2_with fail
    refine wp_region_mix0 [.w, .l, .k, .w, .l, .k, .w, .w] (by kernel_rfl) (by kernel_rfl) ?_
    refine mix_w1 ?_; go_big_quiet_step (fail); refine wpQuiet_nil ?_
    refine mix_l1 rfl ?_; go_big_quiet_step (fail); refine wpQuiet_nil ?_
    refine mix_k rfl fun Q' hQ' => ?_
    go_wp2_with (go_at_call 20; refine (HD.out _).mono ?_; rintro e w2 ⟨rfl, rfl⟩)
    refine hQ' _ _ rfl ?_
    clear hQ' Q'
    refine mix_w1 ?_; go_big_quiet_step (fail); refine wpQuiet_nil ?_
    refine mix_l1 rfl ?_; go_big_quiet_step (fail); refine wpQuiet_nil ?_
    refine mix_k rfl fun Q' hQ' => ?_
    go_wp2_with (go_at_call 20; refine (HS.out _).mono ?_; rintro e w2 ⟨rfl, rfl⟩)
    refine hQ' _ _ rfl ?_
    clear hQ' Q'
    repeat (refine mix_w1 ?_; go_big_quiet_step (fail); refine wpQuiet_nil ?_)
    refine mix_done ?_
    go_wp2_with fail
    go_ret
    exact ⟨rfl, hkB.drew⟩
  · have hr := HR.out
    rw [hcl] at hr h7
    replace hr : (if (x.op / 16 == 13) = true then bd else if (x.op / 16 == 11) = true then sx else bd ||| sx) = r := hr
    clear HR hcl
    cases h13 : (x.op / 16 == 13)
    case true =>
      rw [if_pos h13] at hr
      subst hr
      go_enter Try.func22, Try.ntmps22
      go_wp2_with (go_at_call 20; refine (HD.out _).mono ?_; rintro e w2 ⟨rfl, rfl⟩)
      go_ret
      exact ⟨rfl, hkB⟩
    case false =>
    rw [if_neg (by rw [h13]; decide)] at hr
    cases h11 : (x.op / 16 == 11)
    case true =>
      rw [if_pos h11] at hr
      subst hr
      go_enter Try.func22, Try.ntmps22
      go_wp2_with (go_at_call 48; refine (H2.out _).mono ?_; rintro e w2 ⟨rfl, rfl⟩)
      go_ret
      exact ⟨rfl, hkB.alloc _⟩
    case false =>
    rw [if_neg (by rw [h11]; decide)] at hr
    subst hr
    go_enter Try.func22, Try.ntmps22
    go_wp2_with fail
    refine wp_region_mix0 [.w, .l, .k, .l, .t, .w, .w] (by kernel_rfl) (by kernel_rfl) ?_
    refine mix_w1 ?_; go_big_quiet_step (fail); refine wpQuiet_nil ?_
    refine mix_l1 rfl ?_; go_big_quiet_step (fail); refine wpQuiet_nil ?_
    refine mix_k rfl fun Q' hQ' => ?_
    go_wp2_with (go_at_call 20; refine (HD.out _).mono ?_; rintro e w2 ⟨rfl, rfl⟩)
    refine hQ' _ _ rfl ?_
    clear hQ' Q'
    refine mix_l1 rfl ?_; go_big_quiet_step (fail); refine wpQuiet_nil ?_
    refine mix_t fun Q' hQ' => ?_
    go_wp2_with (go_at_call 48; refine (H2.out _).mono ?_; rintro e w2 ⟨rfl, rfl⟩)
    repeat (refine mix_w1 ?_; go_big_quiet_step (fail); refine wpQuiet_nil ?_)
    refine mix_done ?_
    go_wp2_with fail
    go_ret
    exact ⟨rfl, hkB.drew.alloc _⟩
  · have hr := HR.out
    rw [hcl] at hr h7
    replace hr : jx = r := hr
    clear HR hcl
    subst hr
    go_enter Try.func22, Try.ntmps22
    go_wp2_with (go_at_call 49; refine (HJ.out _).mono ?_; rintro e w2 ⟨rfl, hk2⟩)
    go_ret
    exact ⟨rfl, hkB.trans hk2 (fun _ _ h => h)⟩
  · have hr := HR.out
    rw [hcl] at hr h7
    replace hr : (bd ||| sx) = r := hr
    clear HR hcl
    subst hr
    go_enter Try.func22, Try.ntmps22
    go_wp2_with fail
    refine wp_region_mix0 [.w, .l, .k, .l, .t, .w, .w] (by kernel_rfl) (by kernel_rfl) ?_
    refine mix_w1 ?_; go_big_quiet_step (fail); refine wpQuiet_nil ?_
    refine mix_l1 rfl ?_; go_big_quiet_step (fail); refine wpQuiet_nil ?_
    refine mix_k rfl fun Q' hQ' => ?_
    go_wp2_with (go_at_call 20; refine (HD.out _).mono ?_; rintro e w2 ⟨rfl, rfl⟩)
    refine hQ' _ _ rfl ?_
    clear hQ' Q'
    refine mix_l1 rfl ?_; go_big_quiet_step (fail); refine wpQuiet_nil ?_
    refine mix_t fun Q' hQ' => ?_
    go_wp2_with (go_at_call 48; refine (H2.out _).mono ?_; rintro e w2 ⟨rfl, rfl⟩)
    repeat (refine mix_w1 ?_; go_big_quiet_step (fail); refine wpQuiet_nil ?_)
    refine mix_done ?_
    go_wp2_with fail
    go_ret
    exact ⟨rfl, hkB.drew.alloc _⟩
  · have hr := HR.out
    rw [hcl] at hr h7
    replace hr : (if (x.op / 16 == 13) = true then bd else if (x.op / 16 == 11) = true then sx else bd ||| sx) = r := hr
    clear HR hcl
    cases h13 : (x.op / 16 == 13)
    case true =>
      rw [if_pos h13] at hr
      subst hr
      go_enter Try.func22, Try.ntmps22
      go_wp2_with (go_at_call 20; refine (HD.out _).mono ?_; rintro e w2 ⟨rfl, rfl⟩)
      go_ret
      exact ⟨rfl, hkB⟩
    case false =>
    rw [if_neg (by rw [h13]; decide)] at hr
    cases h11 : (x.op / 16 == 11)
    case true =>
      rw [if_pos h11] at hr
      subst hr
      go_enter Try.func22, Try.ntmps22
      go_wp2_with (go_at_call 48; refine (H2.out _).mono ?_; rintro e w2 ⟨rfl, rfl⟩)
      go_ret
      exact ⟨rfl, hkB.alloc _⟩
    case false =>
    rw [if_neg (by rw [h11]; decide)] at hr
    subst hr
    go_enter Try.func22, Try.ntmps22
    go_wp2_with fail
    refine wp_region_mix0 [.w, .l, .k, .l, .t, .w, .w] (by kernel_rfl) (by kernel_rfl) ?_
    refine mix_w1 ?_; go_big_quiet_step (fail); refine wpQuiet_nil ?_
    refine mix_l1 rfl ?_; go_big_quiet_step (fail); refine wpQuiet_nil ?_
    refine mix_k rfl fun Q' hQ' => ?_
    go_wp2_with (go_at_call 20; refine (HD.out _).mono ?_; rintro e w2 ⟨rfl, rfl⟩)
    refine hQ' _ _ rfl ?_
    clear hQ' Q'
    refine mix_l1 rfl ?_; go_big_quiet_step (fail); refine wpQuiet_nil ?_
    refine mix_t fun Q' hQ' => ?_
    go_wp2_with (go_at_call 48; refine (H2.out _).mono ?_; rintro e w2 ⟨rfl, rfl⟩)
    repeat (refine mix_w1 ?_; go_big_quiet_step (fail); refine wpQuiet_nil ?_)
    refine mix_done ?_
    go_wp2_with fail
    go_ret
    exact ⟨rfl, hkB.drew.alloc _⟩
theorem jumpN_lt (x : In) (hd : x.dst ≤ 10) (hs : x.src ≤ 10) : jumpN x < 65536 := by
  have h1 := bitN_lt hd
  have h2 := secN_lt x hs
  have h3 := protN_lt x.imm
  have h4 : bitN x.dst ||| secN x < 65536 := or_lt (by omega) (by omega)
  have h5 : bitN 0 = 1 := rfl
  unfold jumpN
  split
  · omega
  · split
    · omega
    · split
      · exact h4
      · split <;> omega
theorem readsN_lt (x : In) (hd : x.dst ≤ 10) (hs : x.src ≤ 10) : readsN x < 65536 := by
  have h1 := bitN_lt hd
  have h2 := secN_lt x hs
  have h3 := bitN_lt hs
  have h4 : bitN x.dst ||| secN x < 65536 := or_lt (by omega) (by omega)
  have h5 : bitN x.dst ||| bitN x.src < 65536 := or_lt (by omega) (by omega)
  have h6 := jumpN_lt x hd hs
  unfold readsN
  repeat (first | omega | exact h4 | exact h5 | split)
theorem writesN_lt (x : In) (hd : x.dst ≤ 10) : writesN x < 65536 := by
  have h1 := bitN_lt hd
  unfold writesN
  repeat (first | omega | split)
theorem rightB_regs {x : In} (h : rightB x = true) : x.dst ≤ 10 ∧ x.src ≤ 10 := by
  unfold rightB at h
  simp at h
  exact h.2
/-- what a call of Reads tells, and one of Writes -/
def readsR (x : In) : Nat := if rightB x = true then readsN x else 0
def writesR (x : In) : Nat := if rightB x = true then writesN x else 0
set_option maxHeartbeats 4000000 in
theorem lReads_any (x : In) (w : World) (hx : InOk x) : Calls Try.prog 9 #[.agg (inVals x)] w fun e w' => e = .returned (.tuple #[.int .u16 (readsR x), .bool (rightB x)]) ∧ Kept (fun _ => False) w w' := by
  have HR := Lib.hid (fun W => lright_any x W hx)
  have HI := Lib.hid (fun (h : rightB x = true) W => lreads_any x W hx (rightB_regs h).1 (rightB_regs h).2)
  have hbB := Blk.new w 26 (inVals x)
  have hkB : Kept (fun _ => False) w (w.alloc (.cells (inVals x) 26)) := (Kept.refl _ w).alloc _
  unfold readsR
  cases h : rightB x
  case false =>
    rw [h] at HR
    simp only [if_false, Bool.false_eq_true]
    clear HI h
    go_enter Try.func9, Try.ntmps9
    go_wp2_with fail
    refine (HR.out _).mono ?_
    rintro e w1 ⟨rfl, hk1⟩
    go_wp2_with fail
    go_ret2
    exact ⟨rfl, hkB.trans hk1 (fun _ _ h => h)⟩
  case true =>
    have HI2 := Lib.hid (HI.out h)
    rw [h] at HR
    simp only [if_true]
    clear HI h
    go_enter Try.func9, Try.ntmps9
    go_wp2_with fail
    refine (HR.out _).mono ?_
    rintro e w1 ⟨rfl, hk1⟩
    have hb1 := hk1.blk (fun h => h) hbB
    have x0 := hb1.cell 0
    have x1 := hb1.cell 1
    have x2 := hb1.cell 2
    have x3 := hb1.cell 3
    have x4 := hb1.cell 4
    go_wp2_with fail
    refine (HI2.out _).mono ?_
    rintro e w2 ⟨rfl, hk2⟩
    go_wp2_with fail
    go_ret2
    exact ⟨rfl, (hkB.trans hk1 (fun _ _ h => h)).trans hk2 (fun _ _ h => h)⟩
set_option maxHeartbeats 4000000 in
theorem lWrites_any (x : In) (w : World) (hx : InOk x) : Calls Try.prog 11 #[.agg (inVals x)] w fun e w' => e = .returned (.tuple #[.int .u16 (writesR x), .bool (rightB x)]) ∧ Kept (fun _ => False) w w' := by
  have HR := Lib.hid (fun W => lright_any x W hx)
  have HI := Lib.hid (fun (h : rightB x = true) W => lwrites_any x W hx (rightB_regs h).1)
  have hbB := Blk.new w 26 (inVals x)
  have hkB : Kept (fun _ => False) w (w.alloc (.cells (inVals x) 26)) := (Kept.refl _ w).alloc _
  unfold writesR
  cases h : rightB x
  case false =>
    rw [h] at HR
    simp only [if_false, Bool.false_eq_true]
    clear HI h
    go_enter Try.func11, Try.ntmps11
    go_wp2_with fail
    refine (HR.out _).mono ?_
    rintro e w1 ⟨rfl, hk1⟩
    go_wp2_with fail
    go_ret2
    exact ⟨rfl, hkB.trans hk1 (fun _ _ h => h)⟩
  case true =>
    have HI2 := Lib.hid (HI.out h)
    rw [h] at HR
    simp only [if_true]
    clear HI h
    go_enter Try.func11, Try.ntmps11
    go_wp2_with fail
    refine (HR.out _).mono ?_
    rintro e w1 ⟨rfl, hk1⟩
    have hb1 := hk1.blk (fun h => h) hbB
    have x0 := hb1.cell 0
    have x1 := hb1.cell 1
    have x2 := hb1.cell 2
    have x3 := hb1.cell 3
    have x4 := hb1.cell 4
    go_wp2_with fail
    refine (HI2.out _).mono ?_
    rintro e w2 ⟨rfl, rfl⟩
    go_wp2_with fail
    go_ret2
    exact ⟨rfl, (hkB.trans hk1 (fun _ _ h => h)).alloc _⟩

end Go.Proofs.Ytopdoanfpjaehaa

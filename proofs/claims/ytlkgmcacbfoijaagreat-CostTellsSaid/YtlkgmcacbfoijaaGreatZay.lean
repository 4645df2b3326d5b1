import Derived.Test.YtlkgmcacbfoijaaGreatZax
import Derived.Laws.Concat
set_option linter.unusedSimpArgs false
set_option linter.unusedVariables false
namespace Go.Proofs.YtlkgmcacbfoijaaGreat
open Go.RowKit

/-! ### a place: a size and an address -/
def szS (k : Nat) : List UInt8 := match k with
  | 0 => [42, 40, 117, 51, 50]
  | 1 => [42, 40, 117, 49, 54]
  | 2 => [42, 40, 117, 56]
  | 3 => [42, 40, 117, 54, 52]
  | _ => []
/-- the size's operation, by the first so many names -/
def szU (a : List UInt8) : Nat → Int
  | 0 => 0
  | k + 1 => if (szS k == a) = true then 96 + 8 * (k : Int) else szU a k
def sizeS (a : List UInt8) : Int := szU a 4
theorem szU_cases (a : List UInt8) (k : Nat) (h : k ≤ 4) : szU a k = 0 ∨ szU a k = 96 ∨ szU a k = 104 ∨ szU a k = 112 ∨ szU a k = 120 := by
  have h1 : ∀ k, k ≤ 4 → szU a k = 0 ∨ ∃ j : Nat, j < 4 ∧ szU a k = 96 + 8 * (j : Int) := by
    intro k
    induction k with
    | zero => exact fun _ => .inl rfl
    | succ k ih =>
      intro hk
      show (if (szS k == a) = true then 96 + 8 * (k : Int) else szU a k) = 0 ∨ ∃ j : Nat, j < 4 ∧ (if (szS k == a) = true then 96 + 8 * (k : Int) else szU a k) = 96 + 8 * (j : Int)
      split
      · exact .inr ⟨k, by omega, rfl⟩
      · exact ih (by omega)
  rcases h1 k h with h | ⟨j, hj, h⟩
  · exact .inl h
  · omega
def pairP (op : Int) (r : Option Nat) (o : Option Int) : Option (Int × Nat × Int) := match r, o with
  | some r, some o => some (op, r, o)
  | _, _ => none
def placeS (a b c : List UInt8) : Option (Int × Nat × Int) := if (sizeS a == 0) = true then none else if b.length < 4 then none else if (b.take 3 == [42, 41, 40]) = false then none else if c.length < 2 then none
  else if (ch c (c.length - 1) != 41) = true then none else pairP (sizeS a) (regS (b.drop 3) 114) (offS (c.take (c.length - 1)) 32767)
theorem offS_range {s : List UInt8} {m v : Int} (h : offS s m = some v) (hm : 0 ≤ m) : -m - 1 ≤ v ∧ v ≤ m := by
  unfold offS at h
  split at h
  · cases h
  · split at h
    · split at h
      · cases h
      · have := numS_range h
        omega
    · split at h
      · have := numS_range h
        omega
      · cases h
set_option maxHeartbeats 8000000 in
set_option maxRecDepth 100000 in
theorem place_any (a b c : List UInt8) (w : World) (ha : a.length ≤ 1000000) (hb : b.length ≤ 1000000) (hc : c.length ≤ 1000000) : Calls Tryz.prog 87 #[stV a, stV b, stV c] w fun e w' =>
    (∃ x y z, e = .returned (.tuple #[.int .u8 x, .int .u8 y, .int .i16 z, .bool (placeS a b c).isSome]) ∧ (∀ v, placeS a b c = some v → x = v.1 ∧ y = v.2.1 ∧ z = v.2.2)) ∧ Kept (fun _ => False) w w' := by
  have hszb := ba_size b
  have hszc := ba_size c
  obtain ⟨R, hR⟩ : ∃ R, placeS a b c = R := ⟨_, rfl⟩
  rw [hR]
  unfold placeS at hR
  have HR := Lib.hid hR
  clear hR
  go_enter Tryz.func87, Tryz.ntmps87
  go_wp2_with fail
  go_loopw [11, 12] (fun ov iv wr => ∃ j : Int, iv = .int .i64 j ∧ ov = .int .u8 (szU a j.toNat) ∧ 0 ≤ j ∧ j ≤ 4 ∧ w.alloc (.cells #[.string ⟨#[42, 40, 117, 51, 50]⟩, .string ⟨#[42, 40, 117, 49, 54]⟩, .string ⟨#[42, 40, 117, 56]⟩, .string ⟨#[42, 40, 117, 54, 52]⟩] 153) = wr) (fun _ iv _ => 4 - (intOf iv).toNat)
  case atStart => exact ⟨0, rfl, rfl, by omega, by omega, rfl⟩
  case round =>
    obtain ⟨j, rfl, rfl, hj0, hj4, rfl⟩ := hrel
    have hj5 : j = 0 ∨ j = 1 ∨ j = 2 ∨ j = 3 ∨ j = 4 := by omega
    clear hj0 hj4
    rcases hj5 with rfl | rfl | rfl | rfl | rfl
    · have HU : Hid (szU a 1 = if (szS 0 == a) = true then 96 else szU a 0) := Lib.hid rfl
      simp only [Int.reduceToNat]
      cases hq : ([42,40,117,51,50] == a)
      all_goals
        have HQ : Hid ((szS 0 == a) = _) := Lib.hid hq
        generalize szU a 0 = ov at *
        go_wp2_with fail
        go_roundw
        case rel => first | exact ⟨1, rfl, congrArg (Value.int .u8) (by show _ = szU a 1; rw [HU.out, HQ.out]; rfl), by omega, by omega, by first | trivial | rfl⟩
        case measure => (simp [intOf]; try omega)
    · have HU : Hid (szU a 2 = if (szS 1 == a) = true then 104 else szU a 1) := Lib.hid rfl
      simp only [Int.reduceToNat]
      cases hq : ([42,40,117,49,54] == a)
      all_goals
        have HQ : Hid ((szS 1 == a) = _) := Lib.hid hq
        generalize szU a 1 = ov at *
        go_wp2_with fail
        go_roundw
        case rel => first | exact ⟨2, rfl, congrArg (Value.int .u8) (by show _ = szU a 2; rw [HU.out, HQ.out]; rfl), by omega, by omega, by first | trivial | rfl⟩
        case measure => (simp [intOf]; try omega)
    · have HU : Hid (szU a 3 = if (szS 2 == a) = true then 112 else szU a 2) := Lib.hid rfl
      simp only [Int.reduceToNat]
      cases hq : ([42,40,117,56] == a)
      all_goals
        have HQ : Hid ((szS 2 == a) = _) := Lib.hid hq
        generalize szU a 2 = ov at *
        go_wp2_with fail
        go_roundw
        case rel => first | exact ⟨3, rfl, congrArg (Value.int .u8) (by show _ = szU a 3; rw [HU.out, HQ.out]; rfl), by omega, by omega, by first | trivial | rfl⟩
        case measure => (simp [intOf]; try omega)
    · have HU : Hid (szU a 4 = if (szS 3 == a) = true then 120 else szU a 3) := Lib.hid rfl
      simp only [Int.reduceToNat]
      cases hq : ([42,40,117,54,52] == a)
      all_goals
        have HQ : Hid ((szS 3 == a) = _) := Lib.hid hq
        generalize szU a 3 = ov at *
        go_wp2_with fail
        go_roundw
        case rel => first | exact ⟨4, rfl, congrArg (Value.int .u8) (by show _ = szU a 4; rw [HU.out, HQ.out]; rfl), by omega, by omega, by first | trivial | rfl⟩
        case measure => (simp [intOf]; try omega)
    · have hK1 : Kept (fun _ => False) w (w.alloc (.cells #[.string ⟨#[42, 40, 117, 51, 50]⟩, .string ⟨#[42, 40, 117, 49, 54]⟩, .string ⟨#[42, 40, 117, 56]⟩, .string ⟨#[42, 40, 117, 54, 52]⟩] 153)) := (Kept.refl _ w).alloc _
      have hsz0 : 0 ≤ szU a 4 ∧ szU a 4 ≤ 120 := by have := szU_cases a 4 (by omega); omega
      have hR := HR.out
      clear HR
      unfold sizeS at hR
      simp only [Int.reduceToNat]
      generalize szU a 4 = op at *
      cases c1 : (op == 0)
      case true =>
        rw [if_pos c1] at hR
        subst hR
        go_wp2_with fail
        refine bodyPost_ret (v := .tuple #[.int .u8 0, .int .u8 0, .int .i16 0, .bool false]) (by simp [results, Tryz.results87, go_sem]) rfl ?_
        exact ⟨⟨0, 0, 0, rfl, fun v h => by (cases h)⟩, hK1⟩
      case false =>
      rw [if_neg (by rw [c1]; decide)] at hR
      by_cases hb4 : b.length < 4
      · have hbd : decide ((b.length : Int) < 4) = true := decide_eq_true (by omega)
        rw [if_pos hb4] at hR
        subst hR
        go_wp2_with fail
        refine bodyPost_ret (v := .tuple #[.int .u8 0, .int .u8 0, .int .i16 0, .bool false]) (by simp [results, Tryz.results87, go_sem]) rfl ?_
        exact ⟨⟨0, 0, 0, rfl, fun v h => by (cases h)⟩, hK1⟩
      have hbd : decide ((b.length : Int) < 4) = false := decide_eq_false (by omega)
      rw [if_neg hb4] at hR
      have hb3 : ∀ W, (Instr.sliceAt 9 (.string ⟨b.toArray⟩) none (some (.int .i64 3)) none).run Tryz.prog W = .ok (stV (b.take 3)) W := fun W => st_pre (l := b) (n := 3) (by omega) W
      have hb3d : ∀ W, (Instr.sliceAt 9 (.string ⟨b.toArray⟩) (some (.int .i64 3)) none none).run Tryz.prog W = .ok (stV (b.drop 3)) W := fun W => st_post (l := b) (n := 3) (by omega) W
      cases c3 : (b.take 3 == [42, 41, 40])
      case false =>
        have c3n : (!(b.take 3 == [42, 41, 40])) = true := by rw [c3]; rfl
        rw [if_pos c3] at hR
        subst hR
        go_wp2_with fail
        refine bodyPost_ret (v := .tuple #[.int .u8 0, .int .u8 0, .int .i16 0, .bool false]) (by simp [results, Tryz.results87, go_sem]) rfl ?_
        exact ⟨⟨0, 0, 0, rfl, fun v h => by (cases h)⟩, hK1⟩
      case true =>
      have c3n : (!(b.take 3 == [42, 41, 40])) = false := by rw [c3]; rfl
      rw [if_neg (by rw [c3]; decide)] at hR
      by_cases hc2 : c.length < 2
      · have hcd : decide ((c.length : Int) < 2) = true := decide_eq_true (by omega)
        rw [if_pos hc2] at hR
        subst hR
        go_wp2_with fail
        refine bodyPost_ret (v := .tuple #[.int .u8 0, .int .u8 0, .int .i16 0, .bool false]) (by simp [results, Tryz.results87, go_sem]) rfl ?_
        exact ⟨⟨0, 0, 0, rfl, fun v h => by (cases h)⟩, hK1⟩
      have hcd : decide ((c.length : Int) < 2) = false := decide_eq_false (by omega)
      rw [if_neg hc2] at hR
      have hcl : ((c.length : Int) - 1) = ((c.length - 1 : Nat) : Int) := by omega
      have hci : ∀ W, (Instr.index 9 (.string ⟨c.toArray⟩) (.int .i64 ((c.length : Int) - 1))).run Tryz.prog W = .ok (.int .u8 (ch c (c.length - 1))) W := fun W => by
        rw [hcl]
        exact ch_index (by omega) W
      have hcc : ∀ W, (Instr.sliceAt 9 (.string ⟨c.toArray⟩) none (some (.int .i64 ((c.length : Int) - 1))) none).run Tryz.prog W = .ok (stV (c.take (c.length - 1))) W := fun W => by
        rw [hcl]
        exact st_pre (by omega) W
      have HRG := Lib.hid (fun W => register_any (b.drop 3) 114 W (by rw [List.length_drop]; omega))
      have HOF := Lib.hid (fun W => off_any (c.take (c.length - 1)) 32767 W (by rw [List.length_take]; omega) (by omega))
      have HOR : Hid (∀ v, offS (c.take (c.length - 1)) 32767 = some v → -32768 ≤ v ∧ v ≤ 32767) := Lib.hid (fun v hv => by have := offS_range hv (by omega); omega)
      clear hcl
      generalize ch c (c.length - 1) = cl at *
      generalize c.take (c.length - 1) = ct at *
      generalize b.drop 3 = bt at *
      cases c5 : (cl != 41)
      case true =>
        rw [if_pos c5] at hR
        subst hR
        go_wp2_with fail
        refine bodyPost_ret (v := .tuple #[.int .u8 0, .int .u8 0, .int .i16 0, .bool false]) (by simp [results, Tryz.results87, go_sem]) rfl ?_
        exact ⟨⟨0, 0, 0, rfl, fun v h => by (cases h)⟩, hK1⟩
      case false =>
        rw [if_neg (by rw [c5]; decide)] at hR
        generalize regS bt 114 = rr at *
        generalize offS ct 32767 = oo at *
        have hps : 4 ≤ b.length := by omega
        have hpc : 2 ≤ c.length := by omega
        go_wp2_with fail
        refine (HRG.out _).mono ?_
        rintro e w2 ⟨⟨x, rfl, hx⟩, rfl⟩
        have HX := Lib.hid hx
        clear hx
        go_wp2_with fail
        refine (HOF.out _).mono ?_
        rintro e w3 ⟨⟨z, rfl, hz, hz1, hz2⟩, rfl⟩
        have HZ := Lib.hid hz
        clear hz
        cases rr with
        | none =>
          have hR : none = R := by rw [← hR]; unfold pairP; cases oo <;> rfl
          subst hR
          go_wp2_with fail
          refine bodyPost_ret (v := .tuple #[.int .u8 op, .int .u8 x, .int .i16 (IntKind.i16.wrap z), .bool false]) (by simp [results, Tryz.results87, go_sem]) rfl ?_
          exact ⟨⟨_, _, _, rfl, fun v h => by (cases h)⟩, hK1⟩
        | some r =>
          cases oo with
          | none =>
            have hR : none = R := by rw [← hR]; rfl
            subst hR
            go_wp2_with fail
            refine bodyPost_ret (v := .tuple #[.int .u8 op, .int .u8 x, .int .i16 (IntKind.i16.wrap z), .bool false]) (by simp [results, Tryz.results87, go_sem]) rfl ?_
            exact ⟨⟨_, _, _, rfl, fun v h => by (cases h)⟩, hK1⟩
          | some o =>
            have hR : some (op, r, o) = R := by rw [← hR]; rfl
            subst hR
            go_wp2_with fail
            refine bodyPost_ret (v := .tuple #[.int .u8 op, .int .u8 x, .int .i16 (IntKind.i16.wrap z), .bool true]) (by simp [results, Tryz.results87, go_sem]) rfl ?_
            refine ⟨⟨_, _, _, rfl, fun v h => ?_⟩, hK1⟩
            cases h
            have e1 := HX.out r rfl
            have e2 := HZ.out o rfl
            have e3 := HOR.out o rfl
            refine ⟨rfl, e1, ?_⟩
            rw [e2]
            simp [IntKind.wrap, IntKind.bits, IntKind.signed]
            omega

end Go.Proofs.YtlkgmcacbfoijaaGreat

set_option linter.unusedSimpArgs false
set_option linter.unusedVariables false
namespace Go.Proofs.YtlkgmcacbfoijaaGreat
open Go.RowKit

/-! ### numbers as text -/
def decG : Nat → Nat → List UInt8
  | 0, _ => []
  | f + 1, n => if n < 10 then [UInt8.ofNat (48 + n)] else decG f (n / 10) ++ [UInt8.ofNat (48 + n % 10)]
def decS (n : Nat) : List UInt8 := decG 21 n
set_option maxHeartbeats 4000000 in
set_option maxRecDepth 100000 in
theorem rPlain_any (n : Nat) (w : World) (hn : n < 18446744073709551616) : Calls Tryz.prog 124 #[.int .u64 n] w fun e w' => e = .returned (stV (decS n)) ∧ Kept (fun _ => False) w w' := by
  go_enter Tryz.func124, Tryz.ntmps124
  go_wp2_with fail
  go_loopg [0, 3] 21 (fun k nv sv wr => ∃ (m : Nat) (s : List UInt8), nv = .int .u64 m ∧ sv = stV s ∧ decG k m ++ s = decS n ∧ m < 10 ^ k ∧ m < 18446744073709551616 ∧ 1 ≤ k ∧ s.length + k ≤ 21 ∧ Kept (fun _ => False) w wr)
  case atStart => exact ⟨n, [], rfl, rfl, by simp [decS], by omega, hn, by omega, by simp, Kept.refl _ _⟩
  case round =>
    obtain ⟨m, s, rfl, rfl, hd, hm10, hm, hk, hsl, hK⟩ := hrel
    have HD := Lib.hid hd
    have HM := Lib.hid hm10
    clear hd hm10
    have hx8 : ((UInt8.ofNat (48 + m % 10)).toNat : Int) = 48 + (m : Int) % 10 := by
      have : (UInt8.ofNat (48 + m % 10)).toNat = (48 + m % 10) % 256 := by first | exact UInt8.toNat_ofNat' | simp
      rw [this]
      omega
    have hcv : (convert 85 9 (.slice (some ⟨wr.heap.size, 0, none⟩) 1 1)).run Tryz.prog (wr.alloc (.cells #[.int .u8 (48 + (m : Int) % 10)] 5)) = .ok (stV [UInt8.ofNat (48 + m % 10)]) (wr.alloc (.cells #[.int .u8 (48 + (m : Int) % 10)] 5)) := by
      refine run_convert_bytes_back (P := Tryz.prog) _ _ _ 5 ⟨wr.heap.size, 0, none⟩ 1 [UInt8.ofNat (48 + m % 10)] Tryz.underlying85 Tryz.underlying5 Tryz.underlying9 (fun j hj => ?_)
      obtain rfl : j = 0 := by simpa using hj
      have hb := Blk.new wr 5 #[.int .u8 (48 + (m : Int) % 10)]
      show World.cell? _ ⟨wr.heap.size, 0, none⟩ = _
      rw [hb.cell 0]
      show some (Value.int .u8 (48 + (m : Int) % 10)) = some (Value.int .u8 ((UInt8.ofNat (48 + m % 10)).toNat : Int))
      rw [hx8]
    have hadd : ∀ W, (Op.stringOp .add ⟨[UInt8.ofNat (48 + m % 10)].toArray⟩ ⟨s.toArray⟩).run Tryz.prog W = .ok (stV (UInt8.ofNat (48 + m % 10) :: s)) W := fun W => by
      have := run_string_add_lists (P := Tryz.prog) (w := W) [UInt8.ofNat (48 + m % 10)] s (by simp) (by omega)
      exact this
    obtain ⟨k, rfl⟩ : ∃ k, gk = k + 1 := ⟨gk - 1, by omega⟩
    have HX := Lib.hid hx8
    clear hx8
    by_cases h10 : m < 10
    · have hq : (((m : Int) / 10) == 0) = true := by
        have : (m : Int) / 10 = 0 := by omega
        rw [this]
        rfl
      have HR : Hid (UInt8.ofNat (48 + m % 10) :: s = decS n) := Lib.hid (by
        rw [← HD.out]
        show _ = (if m < 10 then [UInt8.ofNat (48 + m)] else decG k (m / 10) ++ [UInt8.ofNat (48 + m % 10)]) ++ s
        rw [if_pos h10, Nat.mod_eq_of_lt h10]
        rfl)
      generalize UInt8.ofNat (48 + m % 10) = x at *
      go_wp2_with fail
      go_ret
      exact ⟨by rw [← HR.out]; rfl, hK.alloc _⟩
    · have hq : (((m : Int) / 10) == 0) = false := by
        have : (m : Int) / 10 ≠ 0 := by omega
        exact beq_eq_false_iff_ne.2 this
      have HR : Hid (decG k (m / 10) ++ (UInt8.ofNat (48 + m % 10) :: s) = decS n) := Lib.hid (by
        rw [← HD.out]
        show _ = (if m < 10 then [UInt8.ofNat (48 + m)] else decG k (m / 10) ++ [UInt8.ofNat (48 + m % 10)]) ++ s
        rw [if_neg h10, List.append_assoc]
        rfl)
      have HM2 : Hid (m / 10 < 10 ^ k ∧ 1 ≤ k) := Lib.hid (by
        have h1 := HM.out
        rw [Nat.pow_succ] at h1
        refine ⟨Nat.div_lt_of_lt_mul (by rw [Nat.mul_comm]; exact h1), ?_⟩
        rcases Nat.eq_zero_or_pos k with rfl | h
        · simp at h1; omega
        · exact h)
      generalize UInt8.ofNat (48 + m % 10) = x at *
      go_wp2_with fail
      go_roundg k
      case measure => omega
      case rel => exact ⟨m / 10, x :: s, by go_num, rfl, HR.out, HM2.out.1, by omega, HM2.out.2, by simp; omega, hK.alloc _⟩
theorem decG_len (f n : Nat) : (decG f n).length ≤ f := by
  induction f generalizing n with
  | zero => exact Nat.le_refl _
  | succ f ih =>
    show (if n < 10 then [UInt8.ofNat (48 + n)] else decG f (n / 10) ++ [UInt8.ofNat (48 + n % 10)]).length ≤ _
    split
    · simp
    · have := ih (n / 10)
      simp
      omega
def numT (n : Int) : List UInt8 := if n < 0 then 45 :: decS (-n).toNat else decS n.toNat
set_option maxHeartbeats 4000000 in
set_option maxRecDepth 100000 in
theorem rNumber_any (n : Int) (w : World) (hn : -9223372036854775808 ≤ n ∧ n ≤ 9223372036854775807) : Calls Tryz.prog 122 #[.int .i64 n] w fun e w' => e = .returned (stV (numT n)) ∧ Kept (fun _ => False) w w' := by
  unfold numT
  by_cases h : n < 0
  · have hd : decide (n < 0) = true := decide_eq_true h
    obtain ⟨m, rfl⟩ : ∃ m : Nat, n = -(m : Int) := ⟨(-n).toNat, by omega⟩
    rw [if_pos h, show (-(-(m : Int))).toNat = m from by omega]
    have HP := Lib.hid (fun W => rPlain_any m W (by omega))
    have hdl : (decS m).length ≤ 21 := decG_len 21 m
    have hadd : ∀ W, (Op.stringOp .add ⟨#[45]⟩ ⟨(decS m).toArray⟩).run Tryz.prog W = .ok (stV (45 :: decS m)) W := fun W => run_string_add_lists (P := Tryz.prog) (w := W) [45] (decS m) (by simp) (by omega)
    generalize decS m = s at *
    have hm : (m : Int) ≤ 9223372036854775808 := by omega
    go_enter Tryz.func122, Tryz.ntmps122
    have hw : IntKind.u64.wrap (-IntKind.u64.wrap (-(m : Int))) = m := by
      rw [IntKind.wrap_u64, IntKind.wrap_u64]
      omega
    go_wp2_with fail
    refine (HP.out _).mono ?_
    rintro e w1 ⟨rfl, hk⟩
    go_wp2_with fail
    go_ret
    exact ⟨rfl, hk⟩
  · have hd : decide (n < 0) = false := decide_eq_false h
    obtain ⟨m, rfl⟩ : ∃ m : Nat, n = (m : Int) := ⟨n.toNat, by omega⟩
    rw [if_neg h, show ((m : Int)).toNat = m from rfl]
    have HP := Lib.hid (fun W => rPlain_any m W (by omega))
    go_enter Tryz.func122, Tryz.ntmps122
    go_wp2_with fail
    refine (HP.out _).mono ?_
    rintro e w1 ⟨rfl, hk⟩
    go_wp2_with fail
    go_ret
    exact ⟨rfl, hk⟩

end Go.Proofs.YtlkgmcacbfoijaaGreat

set_option linter.unusedSimpArgs false
set_option linter.unusedVariables false
namespace Go.Proofs.YtlkgmcacbfoijaaGreat
open Go.RowKit

/-! ### signs -/
def cmpS (k : Nat) : List UInt8 := match k with
  | 0 => []
  | 1 => [61, 61]
  | 2 => [62]
  | 3 => [62, 61]
  | 4 => [38]
  | 5 => [33, 61]
  | 6 => [115, 62]
  | 7 => [115, 62, 61]
  | 8 => []
  | 9 => []
  | 10 => [60]
  | 11 => [60, 61]
  | 12 => [115, 60]
  | 13 => [115, 60, 61]
  | _ => []
def aluS (k : Nat) : List UInt8 := match k with
  | 0 => [43, 61]
  | 1 => [45, 61]
  | 2 => [42, 61]
  | 3 => [47, 61]
  | 4 => [124, 61]
  | 5 => [38, 61]
  | 6 => [60, 60, 61]
  | 7 => [62, 62, 61]
  | 8 => []
  | 9 => [37, 61]
  | 10 => [94, 61]
  | 11 => [61]
  | 12 => [115, 62, 62, 61]
  | 13 => []
  | _ => []
set_option maxHeartbeats 2000000 in
theorem cmpSign_any0 (w : World) : Calls Tryz.prog 111 #[.int .i64 0] w fun e w' => e = .returned (stV (cmpS 0)) ∧ Kept (fun _ => False) w w' := by
  go_enter Tryz.func111, Tryz.ntmps111
  go_wp2_with fail
  go_ret
  exact ⟨rfl, (Kept.refl _ w).alloc _⟩
set_option maxHeartbeats 2000000 in
theorem cmpSign_any1 (w : World) : Calls Tryz.prog 111 #[.int .i64 1] w fun e w' => e = .returned (stV (cmpS 1)) ∧ Kept (fun _ => False) w w' := by
  go_enter Tryz.func111, Tryz.ntmps111
  go_wp2_with fail
  go_ret
  exact ⟨rfl, (Kept.refl _ w).alloc _⟩
set_option maxHeartbeats 2000000 in
theorem cmpSign_any2 (w : World) : Calls Tryz.prog 111 #[.int .i64 2] w fun e w' => e = .returned (stV (cmpS 2)) ∧ Kept (fun _ => False) w w' := by
  go_enter Tryz.func111, Tryz.ntmps111
  go_wp2_with fail
  go_ret
  exact ⟨rfl, (Kept.refl _ w).alloc _⟩
set_option maxHeartbeats 2000000 in
theorem cmpSign_any3 (w : World) : Calls Tryz.prog 111 #[.int .i64 3] w fun e w' => e = .returned (stV (cmpS 3)) ∧ Kept (fun _ => False) w w' := by
  go_enter Tryz.func111, Tryz.ntmps111
  go_wp2_with fail
  go_ret
  exact ⟨rfl, (Kept.refl _ w).alloc _⟩
set_option maxHeartbeats 2000000 in
theorem cmpSign_any4 (w : World) : Calls Tryz.prog 111 #[.int .i64 4] w fun e w' => e = .returned (stV (cmpS 4)) ∧ Kept (fun _ => False) w w' := by
  go_enter Tryz.func111, Tryz.ntmps111
  go_wp2_with fail
  go_ret
  exact ⟨rfl, (Kept.refl _ w).alloc _⟩
set_option maxHeartbeats 2000000 in
theorem cmpSign_any5 (w : World) : Calls Tryz.prog 111 #[.int .i64 5] w fun e w' => e = .returned (stV (cmpS 5)) ∧ Kept (fun _ => False) w w' := by
  go_enter Tryz.func111, Tryz.ntmps111
  go_wp2_with fail
  go_ret
  exact ⟨rfl, (Kept.refl _ w).alloc _⟩
set_option maxHeartbeats 2000000 in
theorem cmpSign_any6 (w : World) : Calls Tryz.prog 111 #[.int .i64 6] w fun e w' => e = .returned (stV (cmpS 6)) ∧ Kept (fun _ => False) w w' := by
  go_enter Tryz.func111, Tryz.ntmps111
  go_wp2_with fail
  go_ret
  exact ⟨rfl, (Kept.refl _ w).alloc _⟩
set_option maxHeartbeats 2000000 in
theorem cmpSign_any7 (w : World) : Calls Tryz.prog 111 #[.int .i64 7] w fun e w' => e = .returned (stV (cmpS 7)) ∧ Kept (fun _ => False) w w' := by
  go_enter Tryz.func111, Tryz.ntmps111
  go_wp2_with fail
  go_ret
  exact ⟨rfl, (Kept.refl _ w).alloc _⟩
set_option maxHeartbeats 2000000 in
theorem cmpSign_any8 (w : World) : Calls Tryz.prog 111 #[.int .i64 8] w fun e w' => e = .returned (stV (cmpS 8)) ∧ Kept (fun _ => False) w w' := by
  go_enter Tryz.func111, Tryz.ntmps111
  go_wp2_with fail
  go_ret
  exact ⟨rfl, (Kept.refl _ w).alloc _⟩
set_option maxHeartbeats 2000000 in
theorem cmpSign_any9 (w : World) : Calls Tryz.prog 111 #[.int .i64 9] w fun e w' => e = .returned (stV (cmpS 9)) ∧ Kept (fun _ => False) w w' := by
  go_enter Tryz.func111, Tryz.ntmps111
  go_wp2_with fail
  go_ret
  exact ⟨rfl, (Kept.refl _ w).alloc _⟩
set_option maxHeartbeats 2000000 in
theorem cmpSign_any10 (w : World) : Calls Tryz.prog 111 #[.int .i64 10] w fun e w' => e = .returned (stV (cmpS 10)) ∧ Kept (fun _ => False) w w' := by
  go_enter Tryz.func111, Tryz.ntmps111
  go_wp2_with fail
  go_ret
  exact ⟨rfl, (Kept.refl _ w).alloc _⟩
set_option maxHeartbeats 2000000 in
theorem cmpSign_any11 (w : World) : Calls Tryz.prog 111 #[.int .i64 11] w fun e w' => e = .returned (stV (cmpS 11)) ∧ Kept (fun _ => False) w w' := by
  go_enter Tryz.func111, Tryz.ntmps111
  go_wp2_with fail
  go_ret
  exact ⟨rfl, (Kept.refl _ w).alloc _⟩
set_option maxHeartbeats 2000000 in
theorem cmpSign_any12 (w : World) : Calls Tryz.prog 111 #[.int .i64 12] w fun e w' => e = .returned (stV (cmpS 12)) ∧ Kept (fun _ => False) w w' := by
  go_enter Tryz.func111, Tryz.ntmps111
  go_wp2_with fail
  go_ret
  exact ⟨rfl, (Kept.refl _ w).alloc _⟩
set_option maxHeartbeats 2000000 in
theorem cmpSign_any13 (w : World) : Calls Tryz.prog 111 #[.int .i64 13] w fun e w' => e = .returned (stV (cmpS 13)) ∧ Kept (fun _ => False) w w' := by
  go_enter Tryz.func111, Tryz.ntmps111
  go_wp2_with fail
  go_ret
  exact ⟨rfl, (Kept.refl _ w).alloc _⟩
theorem cmpSign_any (k : Nat) (h : k ≤ 13) (w : World) : Calls Tryz.prog 111 #[.int .i64 k] w fun e w' => e = .returned (stV (cmpS k)) ∧ Kept (fun _ => False) w w' := by
  rcases (by omega : k = 0 ∨ k = 1 ∨ k = 2 ∨ k = 3 ∨ k = 4 ∨ k = 5 ∨ k = 6 ∨ k = 7 ∨ k = 8 ∨ k = 9 ∨ k = 10 ∨ k = 11 ∨ k = 12 ∨ k = 13) with rfl | rfl | rfl | rfl | rfl | rfl | rfl | rfl | rfl | rfl | rfl | rfl | rfl | rfl
  · exact cmpSign_any0 w
  · exact cmpSign_any1 w
  · exact cmpSign_any2 w
  · exact cmpSign_any3 w
  · exact cmpSign_any4 w
  · exact cmpSign_any5 w
  · exact cmpSign_any6 w
  · exact cmpSign_any7 w
  · exact cmpSign_any8 w
  · exact cmpSign_any9 w
  · exact cmpSign_any10 w
  · exact cmpSign_any11 w
  · exact cmpSign_any12 w
  · exact cmpSign_any13 w
set_option maxHeartbeats 2000000 in
theorem aluSign_any0 (w : World) : Calls Tryz.prog 114 #[.int .i64 0] w fun e w' => e = .returned (stV (aluS 0)) ∧ Kept (fun _ => False) w w' := by
  go_enter Tryz.func114, Tryz.ntmps114
  go_wp2_with fail
  go_ret
  exact ⟨rfl, (Kept.refl _ w).alloc _⟩
set_option maxHeartbeats 2000000 in
theorem aluSign_any1 (w : World) : Calls Tryz.prog 114 #[.int .i64 1] w fun e w' => e = .returned (stV (aluS 1)) ∧ Kept (fun _ => False) w w' := by
  go_enter Tryz.func114, Tryz.ntmps114
  go_wp2_with fail
  go_ret
  exact ⟨rfl, (Kept.refl _ w).alloc _⟩
set_option maxHeartbeats 2000000 in
theorem aluSign_any2 (w : World) : Calls Tryz.prog 114 #[.int .i64 2] w fun e w' => e = .returned (stV (aluS 2)) ∧ Kept (fun _ => False) w w' := by
  go_enter Tryz.func114, Tryz.ntmps114
  go_wp2_with fail
  go_ret
  exact ⟨rfl, (Kept.refl _ w).alloc _⟩
set_option maxHeartbeats 2000000 in
theorem aluSign_any3 (w : World) : Calls Tryz.prog 114 #[.int .i64 3] w fun e w' => e = .returned (stV (aluS 3)) ∧ Kept (fun _ => False) w w' := by
  go_enter Tryz.func114, Tryz.ntmps114
  go_wp2_with fail
  go_ret
  exact ⟨rfl, (Kept.refl _ w).alloc _⟩
set_option maxHeartbeats 2000000 in
theorem aluSign_any4 (w : World) : Calls Tryz.prog 114 #[.int .i64 4] w fun e w' => e = .returned (stV (aluS 4)) ∧ Kept (fun _ => False) w w' := by
  go_enter Tryz.func114, Tryz.ntmps114
  go_wp2_with fail
  go_ret
  exact ⟨rfl, (Kept.refl _ w).alloc _⟩
set_option maxHeartbeats 2000000 in
theorem aluSign_any5 (w : World) : Calls Tryz.prog 114 #[.int .i64 5] w fun e w' => e = .returned (stV (aluS 5)) ∧ Kept (fun _ => False) w w' := by
  go_enter Tryz.func114, Tryz.ntmps114
  go_wp2_with fail
  go_ret
  exact ⟨rfl, (Kept.refl _ w).alloc _⟩
set_option maxHeartbeats 2000000 in
theorem aluSign_any6 (w : World) : Calls Tryz.prog 114 #[.int .i64 6] w fun e w' => e = .returned (stV (aluS 6)) ∧ Kept (fun _ => False) w w' := by
  go_enter Tryz.func114, Tryz.ntmps114
  go_wp2_with fail
  go_ret
  exact ⟨rfl, (Kept.refl _ w).alloc _⟩
set_option maxHeartbeats 2000000 in
theorem aluSign_any7 (w : World) : Calls Tryz.prog 114 #[.int .i64 7] w fun e w' => e = .returned (stV (aluS 7)) ∧ Kept (fun _ => False) w w' := by
  go_enter Tryz.func114, Tryz.ntmps114
  go_wp2_with fail
  go_ret
  exact ⟨rfl, (Kept.refl _ w).alloc _⟩
set_option maxHeartbeats 2000000 in
theorem aluSign_any8 (w : World) : Calls Tryz.prog 114 #[.int .i64 8] w fun e w' => e = .returned (stV (aluS 8)) ∧ Kept (fun _ => False) w w' := by
  go_enter Tryz.func114, Tryz.ntmps114
  go_wp2_with fail
  go_ret
  exact ⟨rfl, (Kept.refl _ w).alloc _⟩
set_option maxHeartbeats 2000000 in
theorem aluSign_any9 (w : World) : Calls Tryz.prog 114 #[.int .i64 9] w fun e w' => e = .returned (stV (aluS 9)) ∧ Kept (fun _ => False) w w' := by
  go_enter Tryz.func114, Tryz.ntmps114
  go_wp2_with fail
  go_ret
  exact ⟨rfl, (Kept.refl _ w).alloc _⟩
set_option maxHeartbeats 2000000 in
theorem aluSign_any10 (w : World) : Calls Tryz.prog 114 #[.int .i64 10] w fun e w' => e = .returned (stV (aluS 10)) ∧ Kept (fun _ => False) w w' := by
  go_enter Tryz.func114, Tryz.ntmps114
  go_wp2_with fail
  go_ret
  exact ⟨rfl, (Kept.refl _ w).alloc _⟩
set_option maxHeartbeats 2000000 in
theorem aluSign_any11 (w : World) : Calls Tryz.prog 114 #[.int .i64 11] w fun e w' => e = .returned (stV (aluS 11)) ∧ Kept (fun _ => False) w w' := by
  go_enter Tryz.func114, Tryz.ntmps114
  go_wp2_with fail
  go_ret
  exact ⟨rfl, (Kept.refl _ w).alloc _⟩
set_option maxHeartbeats 2000000 in
theorem aluSign_any12 (w : World) : Calls Tryz.prog 114 #[.int .i64 12] w fun e w' => e = .returned (stV (aluS 12)) ∧ Kept (fun _ => False) w w' := by
  go_enter Tryz.func114, Tryz.ntmps114
  go_wp2_with fail
  go_ret
  exact ⟨rfl, (Kept.refl _ w).alloc _⟩
set_option maxHeartbeats 2000000 in
theorem aluSign_any13 (w : World) : Calls Tryz.prog 114 #[.int .i64 13] w fun e w' => e = .returned (stV (aluS 13)) ∧ Kept (fun _ => False) w w' := by
  go_enter Tryz.func114, Tryz.ntmps114
  go_wp2_with fail
  go_ret
  exact ⟨rfl, (Kept.refl _ w).alloc _⟩
theorem aluSign_any (k : Nat) (h : k ≤ 13) (w : World) : Calls Tryz.prog 114 #[.int .i64 k] w fun e w' => e = .returned (stV (aluS k)) ∧ Kept (fun _ => False) w w' := by
  rcases (by omega : k = 0 ∨ k = 1 ∨ k = 2 ∨ k = 3 ∨ k = 4 ∨ k = 5 ∨ k = 6 ∨ k = 7 ∨ k = 8 ∨ k = 9 ∨ k = 10 ∨ k = 11 ∨ k = 12 ∨ k = 13) with rfl | rfl | rfl | rfl | rfl | rfl | rfl | rfl | rfl | rfl | rfl | rfl | rfl | rfl
  · exact aluSign_any0 w
  · exact aluSign_any1 w
  · exact aluSign_any2 w
  · exact aluSign_any3 w
  · exact aluSign_any4 w
  · exact aluSign_any5 w
  · exact aluSign_any6 w
  · exact aluSign_any7 w
  · exact aluSign_any8 w
  · exact aluSign_any9 w
  · exact aluSign_any10 w
  · exact aluSign_any11 w
  · exact aluSign_any12 w
  · exact aluSign_any13 w

end Go.Proofs.YtlkgmcacbfoijaaGreat


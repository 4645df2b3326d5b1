import Derived.Test.YtlkgmcacbfoijaaQf
set_option linter.unusedSimpArgs false
set_option linter.unusedVariables false
namespace Go.Proofs.Ytlkgmcacbfoijaa
open Go.RowKit

/-! ### a place: a size and an address -/
def szS (k : Nat) : List UInt8 := match k with
  | 0 => [42, 40, 117, 51, 50]
  | 1 => [42, 40, 117, 49, 54]
  | 2 => [42, 40, 117, 56]
  | 3 => [42, 40, 117, 54, 52]
  | _ => []
/-- the size's operation, by the first so many names -/
def szU (a : List UInt8) : Nat → Int
  | 0 => 0
  | k + 1 => if (szS k == a) = true then 96 + 8 * (k : Int) else szU a k
def sizeS (a : List UInt8) : Int := szU a 4
theorem szU_cases (a : List UInt8) (k : Nat) (h : k ≤ 4) : szU a k = 0 ∨ szU a k = 96 ∨ szU a k = 104 ∨ szU a k = 112 ∨ szU a k = 120 := by
  have h1 : ∀ k, k ≤ 4 → szU a k = 0 ∨ ∃ j : Nat, j < 4 ∧ szU a k = 96 + 8 * (j : Int) := by
    intro k
    induction k with
    | zero => exact fun _ => .inl rfl
    | succ k ih =>
      intro hk
      show (if (szS k == a) = true then 96 + 8 * (k : Int) else szU a k) = 0 ∨ ∃ j : Nat, j < 4 ∧ (if (szS k == a) = true then 96 + 8 * (k : Int) else szU a k) = 96 + 8 * (j : Int)
      split
      · exact .inr ⟨k, by omega, rfl⟩
      · exact ih (by omega)
  rcases h1 k h with h | ⟨j, hj, h⟩
  · exact .inl h
  · omega
def pairP (op : Int) (r : Option Nat) (o : Option Int) : Option (Int × Nat × Int) := match r, o with
  | some r, some o => some (op, r, o)
  | _, _ => none
def placeS (a b c : List UInt8) : Option (Int × Nat × Int) := if (sizeS a == 0) = true then none else if b.length < 4 then none else if (b.take 3 == [42, 41, 40]) = false then none else if c.length < 2 then none
  else if (ch c (c.length - 1) != 41) = true then none else pairP (sizeS a) (regS (b.drop 3) 114) (offS (c.take (c.length - 1)) 32767)
theorem offS_range {s : List UInt8} {m v : Int} (h : offS s m = some v) (hm : 0 ≤ m) : -m - 1 ≤ v ∧ v ≤ m := by
  unfold offS at h
  split at h
  · cases h
  · split at h
    · split at h
      · cases h
      · have := numS_range h
        omega
    · split at h
      · have := numS_range h
        omega
      · cases h
set_option maxHeartbeats 8000000 in
set_option maxRecDepth 100000 in
theorem place_any (a b c : List UInt8) (w : World) (ha : a.length ≤ 1000000) (hb : b.length ≤ 1000000) (hc : c.length ≤ 1000000) : Calls Try.prog 64 #[stV a, stV b, stV c] w fun e w' =>
    (∃ x y z, e = .returned (.tuple #[.int .u8 x, .int .u8 y, .int .i16 z, .bool (placeS a b c).isSome]) ∧ (∀ v, placeS a b c = some v → x = v.1 ∧ y = v.2.1 ∧ z = v.2.2)) ∧ Kept (fun _ => False) w w' := by
  have hszb := ba_size b
  have hszc := ba_size c
  obtain ⟨R, hR⟩ : ∃ R, placeS a b c = R := ⟨_, rfl⟩
  rw [hR]
  unfold placeS at hR
  have HR := Lib.hid hR
  clear hR
  go_enter Try.func64, Try.ntmps64
  go_wp2_with fail
  go_loopw [11, 12] (fun ov iv wr => ∃ j : Int, iv = .int .i64 j ∧ ov = .int .u8 (szU a j.toNat) ∧ 0 ≤ j ∧ j ≤ 4 ∧ w.alloc (.cells #[.string ⟨#[42, 40, 117, 51, 50]⟩, .string ⟨#[42, 40, 117, 49, 54]⟩, .string ⟨#[42, 40, 117, 56]⟩, .string ⟨#[42, 40, 117, 54, 52]⟩] 129) = wr) (fun _ iv _ => 4 - (intOf iv).toNat)
  case atStart => exact ⟨0, rfl, rfl, by omega, by omega, rfl⟩
  case round =>
    obtain ⟨j, rfl, rfl, hj0, hj4, rfl⟩ := hrel
    have hj5 : j = 0 ∨ j = 1 ∨ j = 2 ∨ j = 3 ∨ j = 4 := by omega
    clear hj0 hj4
    rcases hj5 with rfl | rfl | rfl | rfl | rfl
    · have HU : Hid (szU a 1 = if (szS 0 == a) = true then 96 else szU a 0) := Lib.hid rfl
      simp only [Int.reduceToNat]
      cases hq : ([42,40,117,51,50] == a)
      all_goals
        have HQ : Hid ((szS 0 == a) = _) := Lib.hid hq
        generalize szU a 0 = ov at *
        go_wp2_with fail
        go_roundw
        case rel => first | exact ⟨1, rfl, congrArg (Value.int .u8) (by show _ = szU a 1; rw [HU.out, HQ.out]; rfl), by omega, by omega, by first | trivial | rfl⟩
        case measure => (simp [intOf]; try omega)
    · have HU : Hid (szU a 2 = if (szS 1 == a) = true then 104 else szU a 1) := Lib.hid rfl
      simp only [Int.reduceToNat]
      cases hq : ([42,40,117,49,54] == a)
      all_goals
        have HQ : Hid ((szS 1 == a) = _) := Lib.hid hq
        generalize szU a 1 = ov at *
        go_wp2_with fail
        go_roundw
        case rel => first | exact ⟨2, rfl, congrArg (Value.int .u8) (by show _ = szU a 2; rw [HU.out, HQ.out]; rfl), by omega, by omega, by first | trivial | rfl⟩
        case measure => (simp [intOf]; try omega)
    · have HU : Hid (szU a 3 = if (szS 2 == a) = true then 112 else szU a 2) := Lib.hid rfl
      simp only [Int.reduceToNat]
      cases hq : ([42,40,117,56] == a)
      all_goals
        have HQ : Hid ((szS 2 == a) = _) := Lib.hid hq
        generalize szU a 2 = ov at *
        go_wp2_with fail
        go_roundw
        case rel => first | exact ⟨3, rfl, congrArg (Value.int .u8) (by show _ = szU a 3; rw [HU.out, HQ.out]; rfl), by omega, by omega, by first | trivial | rfl⟩
        case measure => (simp [intOf]; try omega)
    · have HU : Hid (szU a 4 = if (szS 3 == a) = true then 120 else szU a 3) := Lib.hid rfl
      simp only [Int.reduceToNat]
      cases hq : ([42,40,117,54,52] == a)
      all_goals
        have HQ : Hid ((szS 3 == a) = _) := Lib.hid hq
        generalize szU a 3 = ov at *
        go_wp2_with fail
        go_roundw
        case rel => first | exact ⟨4, rfl, congrArg (Value.int .u8) (by show _ = szU a 4; rw [HU.out, HQ.out]; rfl), by omega, by omega, by first | trivial | rfl⟩
        case measure => (simp [intOf]; try omega)
    · have hK1 : Kept (fun _ => False) w (w.alloc (.cells #[.string ⟨#[42, 40, 117, 51, 50]⟩, .string ⟨#[42, 40, 117, 49, 54]⟩, .string ⟨#[42, 40, 117, 56]⟩, .string ⟨#[42, 40, 117, 54, 52]⟩] 129)) := (Kept.refl _ w).alloc _
      have hsz0 : 0 ≤ szU a 4 ∧ szU a 4 ≤ 120 := by have := szU_cases a 4 (by omega); omega
      have hR := HR.out
      clear HR
      unfold sizeS at hR
      simp only [Int.reduceToNat]
      generalize szU a 4 = op at *
      cases c1 : (op == 0)
      case true =>
        rw [if_pos c1] at hR
        subst hR
        go_wp2_with fail
        refine bodyPost_ret (v := .tuple #[.int .u8 0, .int .u8 0, .int .i16 0, .bool false]) (by simp [results, Try.results64, go_sem]) rfl ?_
        exact ⟨⟨0, 0, 0, rfl, fun v h => by (cases h)⟩, hK1⟩
      case false =>
      rw [if_neg (by rw [c1]; decide)] at hR
      by_cases hb4 : b.length < 4
      · have hbd : decide ((b.length : Int) < 4) = true := decide_eq_true (by omega)
        rw [if_pos hb4] at hR
        subst hR
        go_wp2_with fail
        refine bodyPost_ret (v := .tuple #[.int .u8 0, .int .u8 0, .int .i16 0, .bool false]) (by simp [results, Try.results64, go_sem]) rfl ?_
        exact ⟨⟨0, 0, 0, rfl, fun v h => by (cases h)⟩, hK1⟩
      have hbd : decide ((b.length : Int) < 4) = false := decide_eq_false (by omega)
      rw [if_neg hb4] at hR
      have hb3 : ∀ W, (Instr.sliceAt 9 (.string ⟨b.toArray⟩) none (some (.int .i64 3)) none).run Try.prog W = .ok (stV (b.take 3)) W := fun W => st_pre (l := b) (n := 3) (by omega) W
      have hb3d : ∀ W, (Instr.sliceAt 9 (.string ⟨b.toArray⟩) (some (.int .i64 3)) none none).run Try.prog W = .ok (stV (b.drop 3)) W := fun W => st_post (l := b) (n := 3) (by omega) W
      cases c3 : (b.take 3 == [42, 41, 40])
      case false =>
        have c3n : (!(b.take 3 == [42, 41, 40])) = true := by rw [c3]; rfl
        rw [if_pos c3] at hR
        subst hR
        go_wp2_with fail
        refine bodyPost_ret (v := .tuple #[.int .u8 0, .int .u8 0, .int .i16 0, .bool false]) (by simp [results, Try.results64, go_sem]) rfl ?_
        exact ⟨⟨0, 0, 0, rfl, fun v h => by (cases h)⟩, hK1⟩
      case true =>
      have c3n : (!(b.take 3 == [42, 41, 40])) = false := by rw [c3]; rfl
      rw [if_neg (by rw [c3]; decide)] at hR
      by_cases hc2 : c.length < 2
      · have hcd : decide ((c.length : Int) < 2) = true := decide_eq_true (by omega)
        rw [if_pos hc2] at hR
        subst hR
        go_wp2_with fail
        refine bodyPost_ret (v := .tuple #[.int .u8 0, .int .u8 0, .int .i16 0, .bool false]) (by simp [results, Try.results64, go_sem]) rfl ?_
        exact ⟨⟨0, 0, 0, rfl, fun v h => by (cases h)⟩, hK1⟩
      have hcd : decide ((c.length : Int) < 2) = false := decide_eq_false (by omega)
      rw [if_neg hc2] at hR
      have hcl : ((c.length : Int) - 1) = ((c.length - 1 : Nat) : Int) := by omega
      have hci : ∀ W, (Instr.index 9 (.string ⟨c.toArray⟩) (.int .i64 ((c.length : Int) - 1))).run Try.prog W = .ok (.int .u8 (ch c (c.length - 1))) W := fun W => by
        rw [hcl]
        exact ch_index (by omega) W
      have hcc : ∀ W, (Instr.sliceAt 9 (.string ⟨c.toArray⟩) none (some (.int .i64 ((c.length : Int) - 1))) none).run Try.prog W = .ok (stV (c.take (c.length - 1))) W := fun W => by
        rw [hcl]
        exact st_pre (by omega) W
      have HRG := Lib.hid (fun W => register_any (b.drop 3) 114 W (by rw [List.length_drop]; omega))
      have HOF := Lib.hid (fun W => off_any (c.take (c.length - 1)) 32767 W (by rw [List.length_take]; omega) (by omega))
      have HOR : Hid (∀ v, offS (c.take (c.length - 1)) 32767 = some v → -32768 ≤ v ∧ v ≤ 32767) := Lib.hid (fun v hv => by have := offS_range hv (by omega); omega)
      clear hcl
      generalize ch c (c.length - 1) = cl at *
      generalize c.take (c.length - 1) = ct at *
      generalize b.drop 3 = bt at *
      cases c5 : (cl != 41)
      case true =>
        rw [if_pos c5] at hR
        subst hR
        go_wp2_with fail
        refine bodyPost_ret (v := .tuple #[.int .u8 0, .int .u8 0, .int .i16 0, .bool false]) (by simp [results, Try.results64, go_sem]) rfl ?_
        exact ⟨⟨0, 0, 0, rfl, fun v h => by (cases h)⟩, hK1⟩
      case false =>
        rw [if_neg (by rw [c5]; decide)] at hR
        generalize regS bt 114 = rr at *
        generalize offS ct 32767 = oo at *
        have hps : 4 ≤ b.length := by omega
        have hpc : 2 ≤ c.length := by omega
        go_wp2_with fail
        refine (HRG.out _).mono ?_
        rintro e w2 ⟨⟨x, rfl, hx⟩, rfl⟩
        have HX := Lib.hid hx
        clear hx
        go_wp2_with fail
        refine (HOF.out _).mono ?_
        rintro e w3 ⟨⟨z, rfl, hz, hz1, hz2⟩, rfl⟩
        have HZ := Lib.hid hz
        clear hz
        cases rr with
        | none =>
          have hR : none = R := by rw [← hR]; unfold pairP; cases oo <;> rfl
          subst hR
          go_wp2_with fail
          refine bodyPost_ret (v := .tuple #[.int .u8 op, .int .u8 x, .int .i16 (IntKind.i16.wrap z), .bool false]) (by simp [results, Try.results64, go_sem]) rfl ?_
          exact ⟨⟨_, _, _, rfl, fun v h => by (cases h)⟩, hK1⟩
        | some r =>
          cases oo with
          | none =>
            have hR : none = R := by rw [← hR]; rfl
            subst hR
            go_wp2_with fail
            refine bodyPost_ret (v := .tuple #[.int .u8 op, .int .u8 x, .int .i16 (IntKind.i16.wrap z), .bool false]) (by simp [results, Try.results64, go_sem]) rfl ?_
            exact ⟨⟨_, _, _, rfl, fun v h => by (cases h)⟩, hK1⟩
          | some o =>
            have hR : some (op, r, o) = R := by rw [← hR]; rfl
            subst hR
            go_wp2_with fail
            refine bodyPost_ret (v := .tuple #[.int .u8 op, .int .u8 x, .int .i16 (IntKind.i16.wrap z), .bool true]) (by simp [results, Try.results64, go_sem]) rfl ?_
            refine ⟨⟨_, _, _, rfl, fun v h => ?_⟩, hK1⟩
            cases h
            have e1 := HX.out r rfl
            have e2 := HZ.out o rfl
            have e3 := HOR.out o rfl
            refine ⟨rfl, e1, ?_⟩
            rw [e2]
            simp [IntKind.wrap, IntKind.bits, IntKind.signed]
            omega

end Go.Proofs.Ytlkgmcacbfoijaa

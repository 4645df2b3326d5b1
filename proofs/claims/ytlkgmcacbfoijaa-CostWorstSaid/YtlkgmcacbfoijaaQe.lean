import Derived.Test.YtlkgmcacbfoijaaQd
set_option linter.unusedSimpArgs false
set_option linter.unusedVariables false
namespace Go.Proofs.Ytlkgmcacbfoijaa
open Go.RowKit

/-! ### numbers with a sign, registers -/
def negB (s : List UInt8) : Bool := match s with
  | [] => false
  | b :: _ => ((b.toNat : Int) == 45)
def rangeS (v least most : Int) : Option Int := if least ≤ v then (if v ≤ most then some v else none) else none
def signS (neg : Bool) (p : Option Nat) (least most : Int) : Option Int := match p with
  | none => none
  | some n => if 4611686018427387904 < n then none else if neg = true then (if n = 0 then none else rangeS (-(n : Int)) least most) else rangeS n least most
def numS (s : List UInt8) (least most : Int) : Option Int := signS (negB s) (plainS (if negB s = true then s.tail else s)) least most
set_option maxHeartbeats 8000000 in
set_option maxRecDepth 100000 in
theorem number_any (s : List UInt8) (least most : Int) (w : World) (hl : s.length ≤ 1000000) (h1 : -9223372036854775808 ≤ least ∧ least ≤ 9223372036854775807) (h2 : -9223372036854775808 ≤ most ∧ most ≤ 9223372036854775807) :
    Calls Try.prog 85 #[stV s, .int .i64 least, .int .i64 most] w fun e w' => (∃ x, e = .returned (.tuple #[.int .i64 x, .bool (numS s least most).isSome]) ∧ (∀ v, numS s least most = some v → x = v) ∧ -4611686018427387904 ≤ x ∧ x ≤ 4611686018427387904) ∧ w = w' := by
  have hsz := ba_size s
  have HP := Lib.hid (fun W => plain_any (if negB s = true then s.tail else s) W (by split <;> (first | (rw [List.length_tail]; omega) | omega)))
  have hneg : s = [] ∨ (negB s = false ∧ ∃ b r, s = b :: r ∧ ((b.toNat : Int) == 45) = false) ∨ (negB s = true ∧ ∃ b r, s = b :: r ∧ ((b.toNat : Int) == 45) = true) := by
    cases s with
    | nil => exact .inl rfl
    | cons b r =>
      cases h : ((b.toNat : Int) == 45)
      · exact .inr (.inl ⟨h, b, r, rfl, h⟩)
      · exact .inr (.inr ⟨h, b, r, rfl, h⟩)
  rcases hneg with rfl | ⟨hn, b, r, hs, hq⟩ | ⟨hn, b, r, hs, hq⟩
  · have hR : numS [] least most = none := rfl
    rw [hR]
    have hp0 : plainS (if negB [] = true then List.tail [] else []) = none := rfl
    rw [hp0] at HP
    replace HP : Hid (∀ W, Calls Try.prog 87 #[stV []] W fun e w' => e = .returned (.tuple #[.int .u64 0, .bool false]) ∧ W = w') := HP
    have hs1 : (ByteArray.mk #[]).size = 0 := rfl
    go_enter Try.func85, Try.ntmps85
    go_wp2_with fail
    refine (HP.out _).mono ?_
    rintro e w2 ⟨rfl, rfl⟩
    go_wp2_with fail
    go_ret2
    exact ⟨⟨0, rfl, fun v h => (by cases h), by omega, by omega⟩, rfl⟩
  all_goals
    have hix0 : ∀ W, (Instr.index 9 (.string ⟨s.toArray⟩) (.int .i64 0)).run Try.prog W = .ok (.int .u8 b.toNat) W := fun W => st_index (i := 0) (by rw [hs]; rfl) W
    have hct : ∀ W, (Instr.sliceAt 9 (.string ⟨s.toArray⟩) (some (.int .i64 1)) none none).run Try.prog W = .ok (stV s.tail) W := fun W => by have := st_post (l := s) (n := 1) (by rw [hs]; simp) W; rwa [List.drop_one] at this
    have hpd : decide ((0 : Int) < s.length) = true := decide_eq_true (by rw [hs]; simp)
    have hps : 0 < s.length := by rw [hs]; simp
    have hnes : s ≠ [] := by rw [hs]; simp
    obtain ⟨R, hR⟩ : ∃ R, numS s least most = R := ⟨_, rfl⟩
    rw [hR]
    unfold numS at hR
    obtain ⟨pl, hpl⟩ : ∃ pl, plainS (if negB s = true then s.tail else s) = pl := ⟨_, rfl⟩
    rw [hpl] at HP hR
    have hplt : ∀ n, pl = some n → n < 18446744073709551616 := fun n hn => plainS_lt (hpl.trans hn)
    rw [hn] at HP hR
    clear hpl hs
  · rw [if_neg (by decide)] at HP
    cases pl with
    | none =>
      replace HP : Hid (∀ W, Calls Try.prog 87 #[stV s] W fun e w' => e = .returned (.tuple #[.int .u64 0, .bool false]) ∧ W = w') := HP
      have hR : none = R := hR
      subst hR
      clear hn hplt
      go_enter Try.func85, Try.ntmps85
      go_wp2_with fail
      refine (HP.out _).mono ?_
      rintro e w2 ⟨rfl, rfl⟩
      go_wp2_with fail
      go_ret2
      exact ⟨⟨0, rfl, fun v h => (by first | (cases h; done) | (cases h; rfl)), by omega, by omega⟩, rfl⟩
    | some n =>
      replace HP : Hid (∀ W, Calls Try.prog 87 #[stV s] W fun e w' => e = .returned (.tuple #[.int .u64 n, .bool true]) ∧ W = w') := HP
      have hnl := hplt n rfl
      clear hplt hn
      by_cases hbig : 4611686018427387904 < n
      · have hbd : decide ((4611686018427387904 : Int) < n) = true := decide_eq_true (by omega)
        have hR : none = R := by rw [← hR]; unfold signS; simp only [if_pos hbig]
        subst hR
        go_enter Try.func85, Try.ntmps85
        go_wp2_with fail
        refine (HP.out _).mono ?_
        rintro e w2 ⟨rfl, rfl⟩
        go_wp2_with fail
        go_ret2
        exact ⟨⟨0, rfl, fun v h => (by first | (cases h; done) | (cases h; rfl)), by omega, by omega⟩, rfl⟩
      have hbd : decide ((4611686018427387904 : Int) < n) = false := decide_eq_false (by omega)
      have hR : rangeS (n : Int) least most = R := by rw [← hR]; unfold signS; simp only [if_neg hbig]; rfl
      unfold rangeS at hR
      by_cases c1 : least ≤ (n : Int)
      · have d1 : decide (least ≤ (n : Int)) = true := decide_eq_true c1
        rw [if_pos c1] at hR
        by_cases c2 : (n : Int) ≤ most
        · have d2 : decide ((n : Int) ≤ most) = true := decide_eq_true c2
          rw [if_pos c2] at hR
          subst hR
          go_enter Try.func85, Try.ntmps85
          go_wp2_with fail
          refine (HP.out _).mono ?_
          rintro e w2 ⟨rfl, rfl⟩
          go_wp2_with fail
          go_ret2
          exact ⟨⟨(n : Int), rfl, fun v h => (by first | (cases h; done) | (cases h; rfl)), by omega, by omega⟩, rfl⟩
        · have d2 : decide ((n : Int) ≤ most) = false := decide_eq_false c2
          rw [if_neg c2] at hR
          subst hR
          go_enter Try.func85, Try.ntmps85
          go_wp2_with fail
          refine (HP.out _).mono ?_
          rintro e w2 ⟨rfl, rfl⟩
          go_wp2_with fail
          go_ret2
          exact ⟨⟨(n : Int), rfl, fun v h => (by first | (cases h; done) | (cases h; rfl)), by omega, by omega⟩, rfl⟩
      · have d1 : decide (least ≤ (n : Int)) = false := decide_eq_false c1
        rw [if_neg c1] at hR
        subst hR
        go_enter Try.func85, Try.ntmps85
        go_wp2_with fail
        refine (HP.out _).mono ?_
        rintro e w2 ⟨rfl, rfl⟩
        go_wp2_with fail
        go_ret2
        exact ⟨⟨(n : Int), rfl, fun v h => (by first | (cases h; done) | (cases h; rfl)), by omega, by omega⟩, rfl⟩
  · rw [if_pos rfl] at HP
    cases pl with
    | none =>
      replace HP : Hid (∀ W, Calls Try.prog 87 #[stV s.tail] W fun e w' => e = .returned (.tuple #[.int .u64 0, .bool false]) ∧ W = w') := HP
      have hR : none = R := hR
      subst hR
      clear hn hplt
      go_enter Try.func85, Try.ntmps85
      go_wp2_with fail
      refine (HP.out _).mono ?_
      rintro e w2 ⟨rfl, rfl⟩
      go_wp2_with fail
      go_ret2
      exact ⟨⟨0, rfl, fun v h => (by first | (cases h; done) | (cases h; rfl)), by omega, by omega⟩, rfl⟩
    | some n =>
      replace HP : Hid (∀ W, Calls Try.prog 87 #[stV s.tail] W fun e w' => e = .returned (.tuple #[.int .u64 n, .bool true]) ∧ W = w') := HP
      have hnl := hplt n rfl
      clear hplt hn
      by_cases hbig : 4611686018427387904 < n
      · have hbd : decide ((4611686018427387904 : Int) < n) = true := decide_eq_true (by omega)
        have hR : none = R := by rw [← hR]; unfold signS; simp only [if_pos hbig]
        subst hR
        go_enter Try.func85, Try.ntmps85
        go_wp2_with fail
        refine (HP.out _).mono ?_
        rintro e w2 ⟨rfl, rfl⟩
        go_wp2_with fail
        go_ret2
        exact ⟨⟨0, rfl, fun v h => (by first | (cases h; done) | (cases h; rfl)), by omega, by omega⟩, rfl⟩
      have hbd : decide ((4611686018427387904 : Int) < n) = false := decide_eq_false (by omega)
      by_cases hz : n = 0
      · subst hz
        have hR : none = R := by rw [← hR]; rfl
        subst hR
        go_enter Try.func85, Try.ntmps85
        go_wp2_with fail
        refine (HP.out _).mono ?_
        rintro e w2 ⟨rfl, rfl⟩
        go_wp2_with fail
        go_ret2
        exact ⟨⟨0, rfl, fun v h => (by first | (cases h; done) | (cases h; rfl)), by omega, by omega⟩, rfl⟩
      have hzd : ((n : Int) == 0) = false := beq_eq_false_iff_ne.2 (by omega)
      have hR : rangeS (-(n : Int)) least most = R := by rw [← hR]; unfold signS; simp only [if_neg hbig, if_neg hz]; rfl
      unfold rangeS at hR
      by_cases c1 : least ≤ (-(n : Int))
      · have d1 : decide (least ≤ (-(n : Int))) = true := decide_eq_true c1
        rw [if_pos c1] at hR
        by_cases c2 : (-(n : Int)) ≤ most
        · have d2 : decide ((-(n : Int)) ≤ most) = true := decide_eq_true c2
          rw [if_pos c2] at hR
          subst hR
          go_enter Try.func85, Try.ntmps85
          go_wp2_with fail
          refine (HP.out _).mono ?_
          rintro e w2 ⟨rfl, rfl⟩
          go_wp2_with fail
          go_ret2
          exact ⟨⟨(-(n : Int)), rfl, fun v h => (by first | (cases h; done) | (cases h; rfl)), by omega, by omega⟩, rfl⟩
        · have d2 : decide ((-(n : Int)) ≤ most) = false := decide_eq_false c2
          rw [if_neg c2] at hR
          subst hR
          go_enter Try.func85, Try.ntmps85
          go_wp2_with fail
          refine (HP.out _).mono ?_
          rintro e w2 ⟨rfl, rfl⟩
          go_wp2_with fail
          go_ret2
          exact ⟨⟨(-(n : Int)), rfl, fun v h => (by first | (cases h; done) | (cases h; rfl)), by omega, by omega⟩, rfl⟩
      · have d1 : decide (least ≤ (-(n : Int))) = false := decide_eq_false c1
        rw [if_neg c1] at hR
        subst hR
        go_enter Try.func85, Try.ntmps85
        go_wp2_with fail
        refine (HP.out _).mono ?_
        rintro e w2 ⟨rfl, rfl⟩
        go_wp2_with fail
        go_ret2
        exact ⟨⟨(-(n : Int)), rfl, fun v h => (by first | (cases h; done) | (cases h; rfl)), by omega, by omega⟩, rfl⟩

end Go.Proofs.Ytlkgmcacbfoijaa

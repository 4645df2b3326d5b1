import Derived.Test.YtlkgmcacbfoijaaGreatZaw
set_option linter.unusedSimpArgs false
set_option linter.unusedVariables false
namespace Go.Proofs.YtlkgmcacbfoijaaGreat
open Go.RowKit

/-! ### numbers with a sign, registers -/
def negB (s : List UInt8) : Bool := match s with
  | [] => false
  | b :: _ => ((b.toNat : Int) == 45)
def rangeS (v least most : Int) : Option Int := if least ≤ v then (if v ≤ most then some v else none) else none
def signS (neg : Bool) (p : Option Nat) (least most : Int) : Option Int := match p with
  | none => none
  | some n => if 4611686018427387904 < n then none else if neg = true then (if n = 0 then none else rangeS (-(n : Int)) least most) else rangeS n least most
def numS (s : List UInt8) (least most : Int) : Option Int := signS (negB s) (plainS (if negB s = true then s.tail else s)) least most
set_option maxHeartbeats 8000000 in
set_option maxRecDepth 100000 in
theorem number_any (s : List UInt8) (least most : Int) (w : World) (hl : s.length ≤ 1000000) (h1 : -9223372036854775808 ≤ least ∧ least ≤ 9223372036854775807) (h2 : -9223372036854775808 ≤ most ∧ most ≤ 9223372036854775807) :
    Calls Tryz.prog 110 #[stV s, .int .i64 least, .int .i64 most] w fun e w' => (∃ x, e = .returned (.tuple #[.int .i64 x, .bool (numS s least most).isSome]) ∧ (∀ v, numS s least most = some v → x = v) ∧ -4611686018427387904 ≤ x ∧ x ≤ 4611686018427387904) ∧ w = w' := by
  have hsz := ba_size s
  have HP := Lib.hid (fun W => plain_any (if negB s = true then s.tail else s) W (by split <;> (first | (rw [List.length_tail]; omega) | omega)))
  have hneg : s = [] ∨ (negB s = false ∧ ∃ b r, s = b :: r ∧ ((b.toNat : Int) == 45) = false) ∨ (negB s = true ∧ ∃ b r, s = b :: r ∧ ((b.toNat : Int) == 45) = true) := by
    cases s with
    | nil => exact .inl rfl
    | cons b r =>
      cases h : ((b.toNat : Int) == 45)
      · exact .inr (.inl ⟨h, b, r, rfl, h⟩)
      · exact .inr (.inr ⟨h, b, r, rfl, h⟩)
  rcases hneg with rfl | ⟨hn, b, r, hs, hq⟩ | ⟨hn, b, r, hs, hq⟩
  · have hR : numS [] least most = none := rfl
    rw [hR]
    have hp0 : plainS (if negB [] = true then List.tail [] else []) = none := rfl
    rw [hp0] at HP
    replace HP : Hid (∀ W, Calls Tryz.prog 112 #[stV []] W fun e w' => e = .returned (.tuple #[.int .u64 0, .bool false]) ∧ W = w') := HP
    have hs1 : (ByteArray.mk #[]).size = 0 := rfl
    go_enter Tryz.func110, Tryz.ntmps110
    go_wp2_with fail
    refine (HP.out _).mono ?_
    rintro e w2 ⟨rfl, rfl⟩
    go_wp2_with fail
    go_ret2
    exact ⟨⟨0, rfl, fun v h => (by cases h), by omega, by omega⟩, rfl⟩
  all_goals
    have hix0 : ∀ W, (Instr.index 9 (.string ⟨s.toArray⟩) (.int .i64 0)).run Tryz.prog W = .ok (.int .u8 b.toNat) W := fun W => st_index (i := 0) (by rw [hs]; rfl) W
    have hct : ∀ W, (Instr.sliceAt 9 (.string ⟨s.toArray⟩) (some (.int .i64 1)) none none).run Tryz.prog W = .ok (stV s.tail) W := fun W => by have := st_post (l := s) (n := 1) (by rw [hs]; simp) W; rwa [List.drop_one] at this
    have hpd : decide ((0 : Int) < s.length) = true := decide_eq_true (by rw [hs]; simp)
    have hps : 0 < s.length := by rw [hs]; simp
    have hnes : s ≠ [] := by rw [hs]; simp
    obtain ⟨R, hR⟩ : ∃ R, numS s least most = R := ⟨_, rfl⟩
    rw [hR]
    unfold numS at hR
    obtain ⟨pl, hpl⟩ : ∃ pl, plainS (if negB s = true then s.tail else s) = pl := ⟨_, rfl⟩
    rw [hpl] at HP hR
    have hplt : ∀ n, pl = some n → n < 18446744073709551616 := fun n hn => plainS_lt (hpl.trans hn)
    rw [hn] at HP hR
    clear hpl hs
  · rw [if_neg (by decide)] at HP
    cases pl with
    | none =>
      replace HP : Hid (∀ W, Calls Tryz.prog 112 #[stV s] W fun e w' => e = .returned (.tuple #[.int .u64 0, .bool false]) ∧ W = w') := HP
      have hR : none = R := hR
      subst hR
      clear hn hplt
      go_enter Tryz.func110, Tryz.ntmps110
      go_wp2_with fail
      refine (HP.out _).mono ?_
      rintro e w2 ⟨rfl, rfl⟩
      go_wp2_with fail
      go_ret2
      exact ⟨⟨0, rfl, fun v h => (by first | (cases h; done) | (cases h; rfl)), by omega, by omega⟩, rfl⟩
    | some n =>
      replace HP : Hid (∀ W, Calls Tryz.prog 112 #[stV s] W fun e w' => e = .returned (.tuple #[.int .u64 n, .bool true]) ∧ W = w') := HP
      have hnl := hplt n rfl
      clear hplt hn
      by_cases hbig : 4611686018427387904 < n
      · have hbd : decide ((4611686018427387904 : Int) < n) = true := decide_eq_true (by omega)
        have hR : none = R := by rw [← hR]; unfold signS; simp only [if_pos hbig]
        subst hR
        go_enter Tryz.func110, Tryz.ntmps110
        go_wp2_with fail
        refine (HP.out _).mono ?_
        rintro e w2 ⟨rfl, rfl⟩
        go_wp2_with fail
        go_ret2
        exact ⟨⟨0, rfl, fun v h => (by first | (cases h; done) | (cases h; rfl)), by omega, by omega⟩, rfl⟩
      have hbd : decide ((4611686018427387904 : Int) < n) = false := decide_eq_false (by omega)
      have hR : rangeS (n : Int) least most = R := by rw [← hR]; unfold signS; simp only [if_neg hbig]; rfl
      unfold rangeS at hR
      by_cases c1 : least ≤ (n : Int)
      · have d1 : decide (least ≤ (n : Int)) = true := decide_eq_true c1
        rw [if_pos c1] at hR
        by_cases c2 : (n : Int) ≤ most
        · have d2 : decide ((n : Int) ≤ most) = true := decide_eq_true c2
          rw [if_pos c2] at hR
          subst hR
          go_enter Tryz.func110, Tryz.ntmps110
          go_wp2_with fail
          refine (HP.out _).mono ?_
          rintro e w2 ⟨rfl, rfl⟩
          go_wp2_with fail
          go_ret2
          exact ⟨⟨(n : Int), rfl, fun v h => (by first | (cases h; done) | (cases h; rfl)), by omega, by omega⟩, rfl⟩
        · have d2 : decide ((n : Int) ≤ most) = false := decide_eq_false c2
          rw [if_neg c2] at hR
          subst hR
          go_enter Tryz.func110, Tryz.ntmps110
          go_wp2_with fail
          refine (HP.out _).mono ?_
          rintro e w2 ⟨rfl, rfl⟩
          go_wp2_with fail
          go_ret2
          exact ⟨⟨(n : Int), rfl, fun v h => (by first | (cases h; done) | (cases h; rfl)), by omega, by omega⟩, rfl⟩
      · have d1 : decide (least ≤ (n : Int)) = false := decide_eq_false c1
        rw [if_neg c1] at hR
        subst hR
        go_enter Tryz.func110, Tryz.ntmps110
        go_wp2_with fail
        refine (HP.out _).mono ?_
        rintro e w2 ⟨rfl, rfl⟩
        go_wp2_with fail
        go_ret2
        exact ⟨⟨(n : Int), rfl, fun v h => (by first | (cases h; done) | (cases h; rfl)), by omega, by omega⟩, rfl⟩
  · rw [if_pos rfl] at HP
    cases pl with
    | none =>
      replace HP : Hid (∀ W, Calls Tryz.prog 112 #[stV s.tail] W fun e w' => e = .returned (.tuple #[.int .u64 0, .bool false]) ∧ W = w') := HP
      have hR : none = R := hR
      subst hR
      clear hn hplt
      go_enter Tryz.func110, Tryz.ntmps110
      go_wp2_with fail
      refine (HP.out _).mono ?_
      rintro e w2 ⟨rfl, rfl⟩
      go_wp2_with fail
      go_ret2
      exact ⟨⟨0, rfl, fun v h => (by first | (cases h; done) | (cases h; rfl)), by omega, by omega⟩, rfl⟩
    | some n =>
      replace HP : Hid (∀ W, Calls Tryz.prog 112 #[stV s.tail] W fun e w' => e = .returned (.tuple #[.int .u64 n, .bool true]) ∧ W = w') := HP
      have hnl := hplt n rfl
      clear hplt hn
      by_cases hbig : 4611686018427387904 < n
      · have hbd : decide ((4611686018427387904 : Int) < n) = true := decide_eq_true (by omega)
        have hR : none = R := by rw [← hR]; unfold signS; simp only [if_pos hbig]
        subst hR
        go_enter Tryz.func110, Tryz.ntmps110
        go_wp2_with fail
        refine (HP.out _).mono ?_
        rintro e w2 ⟨rfl, rfl⟩
        go_wp2_with fail
        go_ret2
        exact ⟨⟨0, rfl, fun v h => (by first | (cases h; done) | (cases h; rfl)), by omega, by omega⟩, rfl⟩
      have hbd : decide ((4611686018427387904 : Int) < n) = false := decide_eq_false (by omega)
      by_cases hz : n = 0
      · subst hz
        have hR : none = R := by rw [← hR]; rfl
        subst hR
        go_enter Tryz.func110, Tryz.ntmps110
        go_wp2_with fail
        refine (HP.out _).mono ?_
        rintro e w2 ⟨rfl, rfl⟩
        go_wp2_with fail
        go_ret2
        exact ⟨⟨0, rfl, fun v h => (by first | (cases h; done) | (cases h; rfl)), by omega, by omega⟩, rfl⟩
      have hzd : ((n : Int) == 0) = false := beq_eq_false_iff_ne.2 (by omega)
      have hR : rangeS (-(n : Int)) least most = R := by rw [← hR]; unfold signS; simp only [if_neg hbig, if_neg hz]; rfl
      unfold rangeS at hR
      by_cases c1 : least ≤ (-(n : Int))
      · have d1 : decide (least ≤ (-(n : Int))) = true := decide_eq_true c1
        rw [if_pos c1] at hR
        by_cases c2 : (-(n : Int)) ≤ most
        · have d2 : decide ((-(n : Int)) ≤ most) = true := decide_eq_true c2
          rw [if_pos c2] at hR
          subst hR
          go_enter Tryz.func110, Tryz.ntmps110
          go_wp2_with fail
          refine (HP.out _).mono ?_
          rintro e w2 ⟨rfl, rfl⟩
          go_wp2_with fail
          go_ret2
          exact ⟨⟨(-(n : Int)), rfl, fun v h => (by first | (cases h; done) | (cases h; rfl)), by omega, by omega⟩, rfl⟩
        · have d2 : decide ((-(n : Int)) ≤ most) = false := decide_eq_false c2
          rw [if_neg c2] at hR
          subst hR
          go_enter Tryz.func110, Tryz.ntmps110
          go_wp2_with fail
          refine (HP.out _).mono ?_
          rintro e w2 ⟨rfl, rfl⟩
          go_wp2_with fail
          go_ret2
          exact ⟨⟨(-(n : Int)), rfl, fun v h => (by first | (cases h; done) | (cases h; rfl)), by omega, by omega⟩, rfl⟩
      · have d1 : decide (least ≤ (-(n : Int))) = false := decide_eq_false c1
        rw [if_neg c1] at hR
        subst hR
        go_enter Tryz.func110, Tryz.ntmps110
        go_wp2_with fail
        refine (HP.out _).mono ?_
        rintro e w2 ⟨rfl, rfl⟩
        go_wp2_with fail
        go_ret2
        exact ⟨⟨(-(n : Int)), rfl, fun v h => (by first | (cases h; done) | (cases h; rfl)), by omega, by omega⟩, rfl⟩

end Go.Proofs.YtlkgmcacbfoijaaGreat

set_option linter.unusedSimpArgs false
set_option linter.unusedVariables false
namespace Go.Proofs.YtlkgmcacbfoijaaGreat
open Go.RowKit

/-! ### immediates, offsets, registers -/
def ch (s : List UInt8) (i : Nat) : Int := ((s.getD i 0).toNat : Int)
def immS (s : List UInt8) : Option Int := numS s (-2147483648) 2147483647
def offS (s : List UInt8) (most : Int) : Option Int := if s.length < 2 then none else if (ch s 0 == 43) = true then (if (ch s 1 == 45) = true then none else numS s.tail 0 most) else if (ch s 0 == 45) = true then numS s (-most - 1) (-1) else none
def regP (p : Option Nat) : Option Nat := match p with
  | none => none
  | some n => if n ≤ 10 then some n else none
def regS (s : List UInt8) (letter : Int) : Option Nat := if s.length < 2 then none else if (ch s 0 != letter) = true then none else regP (plainS s.tail)
theorem ch_index {s : List UInt8} {i : Nat} (h : i < s.length) (W : World) : (Instr.index 9 (.string ⟨s.toArray⟩) (.int .i64 i)).run Tryz.prog W = .ok (.int .u8 (ch s i)) W := by
  have hb : s[i]? = some s[i] := List.getElem?_eq_getElem h
  rw [st_index hb W]
  unfold ch
  rw [List.getD_eq_getElem?_getD, hb]
  rfl
theorem ch_byte (s : List UInt8) (i : Nat) : 0 ≤ ch s i ∧ ch s i ≤ 255 := by
  unfold ch
  have := (s.getD i 0).toNat_lt
  omega
theorem st_tail {s : List UInt8} (h : 1 ≤ s.length) (W : World) : (Instr.sliceAt 9 (.string ⟨s.toArray⟩) (some (.int .i64 1)) none none).run Tryz.prog W = .ok (stV s.tail) W := by
  have := st_post (l := s) (n := 1) h W
  rwa [List.drop_one] at this
theorem numS_range {s : List UInt8} {a b v : Int} (h : numS s a b = some v) : a ≤ v ∧ v ≤ b := by
  unfold numS signS at h
  have hr : ∀ x, rangeS x a b = some v → a ≤ v ∧ v ≤ b := fun x hx => by
    unfold rangeS at hx
    split at hx
    · split at hx
      · cases hx
        exact ⟨by assumption, by assumption⟩
      · cases hx
    · cases hx
  split at h
  · cases h
  · split at h
    · cases h
    · split at h
      · split at h
        · cases h
        · exact hr _ h
      · exact hr _ h
set_option maxHeartbeats 4000000 in
set_option maxRecDepth 100000 in
theorem imm_any (s : List UInt8) (w : World) (hl : s.length ≤ 1000000) : Calls Tryz.prog 85 #[stV s] w fun e w' => (∃ x, e = .returned (.tuple #[.int .i32 x, .bool (immS s).isSome]) ∧ (∀ v, immS s = some v → x = v)) ∧ w = w' := by
  have HN := Lib.hid (fun W => number_any s (-2147483648) 2147483647 W hl (by omega) (by omega))
  have HRG : Hid (∀ v, immS s = some v → -2147483648 ≤ v ∧ v ≤ 2147483647) := Lib.hid (fun v hv => numS_range hv)
  have hI : numS s (-2147483648) 2147483647 = immS s := rfl
  rw [hI] at HN
  generalize immS s = R at *
  clear hI
  go_enter Tryz.func85, Tryz.ntmps85
  go_wp2_with fail
  refine (HN.out _).mono ?_
  rintro e w1 ⟨⟨x, rfl, hx, hx1, hx2⟩, rfl⟩
  have HX := Lib.hid hx
  clear hx
  go_wp2_with fail
  go_ret2
  refine ⟨⟨_, rfl, fun v hv => ?_⟩, rfl⟩
  have h1 := HX.out v hv
  have h2 := HRG.out v hv
  subst h1
  first | omega | (unfold wrap32; omega) | (simp [wrap32]; omega)
set_option maxHeartbeats 4000000 in
set_option maxRecDepth 100000 in
theorem off_any (s : List UInt8) (most : Int) (w : World) (hl : s.length ≤ 1000000) (hm : 0 ≤ most ∧ most ≤ 2147483647) : Calls Tryz.prog 84 #[stV s, .int .i64 most] w fun e w' => (∃ x, e = .returned (.tuple #[.int .i64 x, .bool (offS s most).isSome]) ∧ (∀ v, offS s most = some v → x = v) ∧ -4611686018427387904 ≤ x ∧ x ≤ 4611686018427387904) ∧ w = w' := by
  have hsz := ba_size s
  obtain ⟨R, hR⟩ : ∃ R, offS s most = R := ⟨_, rfl⟩
  rw [hR]
  unfold offS at hR
  by_cases h2 : s.length < 2
  · rw [if_pos h2] at hR
    subst hR
    have hd2 : decide ((s.length : Int) < 2) = true := decide_eq_true (by omega)
    go_enter Tryz.func84, Tryz.ntmps84
    go_wp2_with fail
    go_ret2
    exact ⟨⟨0, rfl, fun v h => by (cases h), by omega, by omega⟩, rfl⟩
  have hd2 : decide ((s.length : Int) < 2) = false := decide_eq_false (by omega)
  rw [if_neg h2] at hR
  have hix0 : ∀ W, (Instr.index 9 (.string ⟨s.toArray⟩) (.int .i64 0)).run Tryz.prog W = .ok (.int .u8 (ch s 0)) W := fun W => ch_index (i := 0) (by omega) W
  have hix1 : ∀ W, (Instr.index 9 (.string ⟨s.toArray⟩) (.int .i64 1)).run Tryz.prog W = .ok (.int .u8 (ch s 1)) W := fun W => ch_index (i := 1) (by omega) W
  have hct := fun W => st_tail (s := s) (by omega) W
  have hps : 2 ≤ s.length := by omega
  have HN1 := Lib.hid (fun W => number_any s.tail 0 most W (by rw [List.length_tail]; omega) (by omega) (by omega))
  have HN2 := Lib.hid (fun W => number_any s (-most - 1) (-1) W hl (by omega) (by omega))
  generalize numS s.tail 0 most = R1 at *
  generalize numS s (-most - 1) (-1) = R2 at *
  generalize ch s 0 = a0 at *
  generalize ch s 1 = a1 at *
  cases q43 : (a0 == 43)
  case true =>
    have q43n : (a0 != 43) = false := by simp only [bne, q43]; rfl
    rw [if_pos q43] at hR
    cases q45 : (a1 == 45)
    case true =>
      rw [if_pos q45] at hR
      subst hR
      go_enter Tryz.func84, Tryz.ntmps84
      go_wp2_with fail
      go_ret2
      exact ⟨⟨0, rfl, fun v h => by (cases h), by omega, by omega⟩, rfl⟩
    case false =>
      rw [if_neg (by rw [q45]; decide)] at hR
      subst hR
      go_enter Tryz.func84, Tryz.ntmps84
      go_wp2_with fail
      refine (HN1.out _).mono ?_
      rintro e w1 ⟨⟨x, rfl, hx, hx1, hx2⟩, rfl⟩
      have HX := Lib.hid hx
      clear hx
      go_wp2_with fail
      go_ret2
      exact ⟨⟨x, rfl, HX.out, hx1, hx2⟩, rfl⟩
  case false =>
    have q43n : (a0 != 43) = true := by simp only [bne, q43]; rfl
    rw [if_neg (by rw [q43]; decide)] at hR
    cases q45 : (a0 == 45)
    case false =>
      have q45n : (a0 != 45) = true := by simp only [bne, q45]; rfl
      rw [if_neg (by rw [q45]; decide)] at hR
      subst hR
      go_enter Tryz.func84, Tryz.ntmps84
      go_wp2_with fail
      go_ret2
      exact ⟨⟨0, rfl, fun v h => by (cases h), by omega, by omega⟩, rfl⟩
    case true =>
      have q45n : (a0 != 45) = false := by simp only [bne, q45]; rfl
      rw [if_pos q45] at hR
      subst hR
      go_enter Tryz.func84, Tryz.ntmps84
      go_wp2_with fail
      refine (HN2.out _).mono ?_
      rintro e w1 ⟨⟨x, rfl, hx, hx1, hx2⟩, rfl⟩
      have HX := Lib.hid hx
      clear hx
      go_wp2_with fail
      go_ret2
      exact ⟨⟨x, rfl, HX.out, hx1, hx2⟩, rfl⟩
set_option maxHeartbeats 4000000 in
set_option maxRecDepth 100000 in
theorem register_any (s : List UInt8) (letter : Int) (w : World) (hl : s.length ≤ 1000000) : Calls Tryz.prog 88 #[stV s, .int .u8 letter] w fun e w' => (∃ x, e = .returned (.tuple #[.int .u8 x, .bool (regS s letter).isSome]) ∧ (∀ v, regS s letter = some v → x = v)) ∧ w = w' := by
  have hsz := ba_size s
  obtain ⟨R, hR⟩ : ∃ R, regS s letter = R := ⟨_, rfl⟩
  rw [hR]
  unfold regS at hR
  by_cases h2 : s.length < 2
  · rw [if_pos h2] at hR
    subst hR
    have hd2 : decide ((s.length : Int) < 2) = true := decide_eq_true (by omega)
    go_enter Tryz.func88, Tryz.ntmps88
    go_wp2_with fail
    go_ret2
    exact ⟨⟨0, rfl, fun v h => by (cases h)⟩, rfl⟩
  have hd2 : decide ((s.length : Int) < 2) = false := decide_eq_false (by omega)
  rw [if_neg h2] at hR
  have hix0 : ∀ W, (Instr.index 9 (.string ⟨s.toArray⟩) (.int .i64 0)).run Tryz.prog W = .ok (.int .u8 (ch s 0)) W := fun W => ch_index (i := 0) (by omega) W
  have hct := fun W => st_tail (s := s) (by omega) W
  have hps : 2 ≤ s.length := by omega
  have HP := Lib.hid (fun W => plain_any s.tail W (by rw [List.length_tail]; omega))
  generalize hpp : plainS s.tail = pl at *
  have hplt : ∀ n, pl = some n → n < 18446744073709551616 := fun n hn => plainS_lt (hpp.trans hn)
  clear hpp
  generalize ch s 0 = a0 at *
  cases q : (a0 != letter)
  case true =>
    rw [if_pos q] at hR
    subst hR
    go_enter Tryz.func88, Tryz.ntmps88
    go_wp2_with fail
    go_ret2
    exact ⟨⟨0, rfl, fun v h => by (cases h)⟩, rfl⟩
  case false =>
    rw [if_neg (by rw [q]; decide)] at hR
    cases pl with
    | none =>
      replace HP : Hid (∀ W, Calls Tryz.prog 112 #[stV s.tail] W fun e w' => e = .returned (.tuple #[.int .u64 0, .bool false]) ∧ W = w') := HP
      have hR : none = R := hR
      subst hR
      clear hplt
      go_enter Tryz.func88, Tryz.ntmps88
      go_wp2_with fail
      refine (HP.out _).mono ?_
      rintro e w1 ⟨rfl, rfl⟩
      go_wp2_with fail
      go_ret2
      exact ⟨⟨0, rfl, fun v h => by (cases h)⟩, rfl⟩
    | some n =>
      replace HP : Hid (∀ W, Calls Tryz.prog 112 #[stV s.tail] W fun e w' => e = .returned (.tuple #[.int .u64 n, .bool true]) ∧ W = w') := HP
      have hnl := hplt n rfl
      clear hplt
      by_cases h10 : n ≤ 10
      · have hd10 : decide ((n : Int) ≤ 10) = true := decide_eq_true (by omega)
        have hR : some n = R := by rw [← hR]; unfold regP; simp only [if_pos h10]
        subst hR
        go_enter Tryz.func88, Tryz.ntmps88
        go_wp2_with fail
        refine (HP.out _).mono ?_
        rintro e w1 ⟨rfl, rfl⟩
        go_wp2_with fail
        go_ret2
        exact ⟨⟨n, rfl, fun v h => by (cases h; rfl)⟩, rfl⟩
      · have hd10 : decide ((n : Int) ≤ 10) = false := decide_eq_false (by omega)
        have hR : none = R := by rw [← hR]; unfold regP; simp only [if_neg h10]
        subst hR
        go_enter Tryz.func88, Tryz.ntmps88
        go_wp2_with fail
        refine (HP.out _).mono ?_
        rintro e w1 ⟨rfl, rfl⟩
        go_wp2_with fail
        go_ret2
        exact ⟨⟨_, rfl, fun v h => by (cases h)⟩, rfl⟩

end Go.Proofs.YtlkgmcacbfoijaaGreat


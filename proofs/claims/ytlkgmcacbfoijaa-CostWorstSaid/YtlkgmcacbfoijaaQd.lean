import Derived.Test.YtlkgmcacbfoijaaQc
set_option linter.unusedSimpArgs false
set_option linter.unusedVariables false
namespace Go.Proofs.Ytlkgmcacbfoijaa
open Go.RowKit

/-! ### numbers -/
def plainG (n : Nat) : List UInt8 → Option Nat
  | [] => some n
  | b :: r => if b.toNat < 48 ∨ 57 < b.toNat ∨ (18446744073709551615 - (b.toNat - 48)) / 10 < n then none else plainG (10 * n + (b.toNat - 48)) r
def plainS (s : List UInt8) : Option Nat := if s.length = 0 ∨ 20 < s.length ∨ (s[0]? = some 48 ∧ 1 < s.length) then none else plainG 0 s
theorem plainG_lt {n v : Nat} {s : List UInt8} (h : plainG n s = some v) (hn : n < 18446744073709551616) : v < 18446744073709551616 := by
  induction s generalizing n with
  | nil => simp [plainG] at h; omega
  | cons b r ih =>
    unfold plainG at h
    split at h
    · cases h
    · refine ih h ?_
      omega
theorem plainS_lt {v : Nat} {s : List UInt8} (h : plainS s = some v) : v < 18446744073709551616 := by
  unfold plainS at h
  split at h
  · cases h
  · exact plainG_lt h (by omega)
def optV (o : Option Nat) : Value := .tuple #[.int .u64 (o.getD 0 : Nat), .bool o.isSome]
set_option maxHeartbeats 8000000 in
set_option maxRecDepth 100000 in
theorem plain_any (s : List UInt8) (w : World) (hl : s.length ≤ 1000000) : Calls Try.prog 87 #[stV s] w fun e w' => e = .returned (optV (plainS s)) ∧ w = w' := by
  have hsz := ba_size s
  by_cases h0 : s.length = 0
  · have hs0 : s = [] := List.length_eq_zero_iff.1 h0
    subst hs0
    have hs1 : (ByteArray.mk #[]).size = 0 := rfl
    clear hsz h0
    go_enter Try.func87, Try.ntmps87
    go_wp2_with fail
    go_ret2
    exact ⟨rfl, rfl⟩
  have h0d : ((s.length : Int) == 0) = false := beq_eq_false_iff_ne.2 (by omega)
  by_cases h20 : 20 < s.length
  · have hR : plainS s = none := by unfold plainS; rw [if_pos (.inr (.inl h20))]
    rw [hR]
    have h20d : decide ((20 : Int) < s.length) = true := decide_eq_true (by omega)
    go_enter Try.func87, Try.ntmps87
    go_wp2_with fail
    go_ret2
    exact ⟨rfl, rfl⟩
  have h20d : decide ((20 : Int) < s.length) = false := decide_eq_false (by omega)
  obtain ⟨c, hc⟩ : ∃ c, s[0]? = some c := ⟨_, List.getElem?_eq_getElem (by omega)⟩
  have hix0 : ∀ W, (Instr.index 9 (.string ⟨s.toArray⟩) (.int .i64 0)).run Try.prog W = .ok (.int .u8 c.toNat) W := fun W => st_index (i := 0) hc W
  by_cases hz : (s[0]? = some 48 ∧ 1 < s.length)
  · have hR : plainS s = none := by unfold plainS; rw [if_pos (.inr (.inr hz))]
    rw [hR]
    have hc8 : ((c.toNat : Int) == 48) = true := by
      have := hz.1
      rw [hc] at this
      cases this
      rfl
    have h1d : decide ((1 : Int) < s.length) = true := decide_eq_true (by omega)
    clear hz hc
    go_enter Try.func87, Try.ntmps87
    go_wp2_with fail
    go_ret2
    exact ⟨rfl, rfl⟩
  have hR : plainS s = plainG 0 s := by unfold plainS; rw [if_neg (fun h => h.elim h0 fun h => h.elim h20 hz)]
  rw [hR]
  have hnz : ((c.toNat : Int) == 48) = false ∨ ((c.toNat : Int) == 48) = true ∧ decide ((1 : Int) < s.length) = false := by
    cases h : ((c.toNat : Int) == 48)
    · exact .inl rfl
    · refine .inr ⟨rfl, decide_eq_false fun h1 => hz ⟨?_, by omega⟩⟩
      have : c.toNat = 48 := by simp at h; omega
      rw [hc, show c = 48 from UInt8.toNat_inj.1 this]
  have HS := Lib.hid hl
  clear hz hc hR
  rcases hnz with hq | ⟨hq, hq2⟩
  all_goals
    go_enter Try.func87, Try.ntmps87
    go_wp2_with fail
    go_loopw [4, 5] (fun nv iv wr => ∃ (i n : Nat), iv = .int .i64 i ∧ nv = .int .u64 n ∧ i ≤ s.length ∧ plainG n (s.drop i) = plainG 0 s ∧ n < 18446744073709551616 ∧ w = wr) (fun _ iv _ => s.length - (intOf iv).toNat)
    case atStart => exact ⟨0, 0, rfl, rfl, by omega, rfl, by omega, rfl⟩
    case round =>
      obtain ⟨i, n, rfl, rfl, hi, hG, hn, rfl⟩ := hrel
      have HG := Lib.hid hG
      clear hG
      by_cases hlt : i < s.length
      case neg =>
        obtain rfl : i = s.length := by omega
        have hid : decide ((s.length : Int) < s.length) = false := decide_eq_false (by omega)
        have HR : Hid (plainG 0 s = some n) := Lib.hid (by rw [← HG.out, List.drop_length]; rfl)
        go_wp2_with fail
        go_ret2
        exact ⟨by rw [HR.out]; rfl, rfl⟩
      case pos =>
        have hid : decide ((i : Int) < s.length) = true := decide_eq_true (by omega)
        obtain ⟨b, hb⟩ : ∃ b, s[i]? = some b := ⟨_, List.getElem?_eq_getElem hlt⟩
        have hix := st_index hb
        have HD := Lib.hid (drop_cons hb)
        have hbl : b.toNat < 256 := b.toNat_lt
        clear hb
        by_cases h48 : b.toNat < 48
        · have hq48 : decide ((b.toNat : Int) < 48) = true := decide_eq_true (by omega)
          have HR : Hid (plainG 0 s = none) := Lib.hid (by
            rw [← HG.out, HD.out]
            show (if _ then _ else _) = _
            rw [if_pos (.inl h48)])
          go_wp2_with fail
          go_ret2
          exact ⟨by rw [HR.out]; rfl, rfl⟩
        · have hq48 : decide ((b.toNat : Int) < 48) = false := decide_eq_false (by omega)
          by_cases h57 : 57 < b.toNat
          · have hq57 : decide ((57 : Int) < b.toNat) = true := decide_eq_true (by omega)
            have HR : Hid (plainG 0 s = none) := Lib.hid (by
              rw [← HG.out, HD.out]
              show (if _ then _ else _) = _
              rw [if_pos (.inr (.inl h57))])
            go_wp2_with fail
            go_ret2
            exact ⟨by rw [HR.out]; rfl, rfl⟩
          · have hq57 : decide ((57 : Int) < b.toNat) = false := decide_eq_false (by omega)
            obtain ⟨d, hd⟩ : ∃ d : Nat, b.toNat = 48 + d := ⟨b.toNat - 48, by omega⟩
            have hd9 : d ≤ 9 := by omega
            have HN : Hid (plainG 0 s = if (18446744073709551615 - d) / 10 < n then none else plainG (10 * n + d) (s.drop (i + 1))) := Lib.hid (by
              rw [← HG.out, HD.out]
              show (if _ then _ else _) = _
              rw [show b.toNat - 48 = d from by omega]
              by_cases hov : (18446744073709551615 - d) / 10 < n
              · rw [if_pos hov, if_pos (.inr (.inr hov))]
              · rw [if_neg hov, if_neg (by omega)])
            rw [hd] at hix hq48 hq57
            by_cases hov : (18446744073709551615 - d) / 10 < n
            · have HR : Hid (plainG 0 s = none) := Lib.hid (by rw [HN.out, if_pos hov])
              have hod : decide ((18446744073709551615 - (d : Int)) / 10 < (n : Int)) = true := decide_eq_true (by omega)
              go_wp2_with fail
              go_ret2
              exact ⟨by rw [HR.out]; rfl, rfl⟩
            · have HR : Hid (plainG (10 * n + d) (s.drop (i + 1)) = plainG 0 s) := Lib.hid (by rw [HN.out, if_neg hov])
              have hod : decide ((18446744073709551615 - (d : Int)) / 10 < (n : Int)) = false := decide_eq_false (by omega)
              have hn2 : 10 * n + d < 18446744073709551616 := by omega
              go_wp2_with fail
              go_roundw
              case rel => exact ⟨i + 1, 10 * n + d, by go_num, by go_num, by omega, HR.out, hn2, by first | trivial | rfl⟩
              case measure => (simp [intOf]; try omega)

end Go.Proofs.Ytlkgmcacbfoijaa

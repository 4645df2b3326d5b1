import Derived.Test.YtlkgmcacbfoijaaEk
import Derived.Test.YtlkgmcacbfoijaaEl
set_option linter.unusedSimpArgs false
set_option linter.unusedVariables false
namespace Go.Proofs.Ytlkgmcacbfoijaa
open Go.RowKit


/-! ### a row of so many comparisons: plain -/
def movD : In := ⟨183, 0, 0, 0, 0⟩
def cmpD : In := ⟨21, 0, 0, 1, 0⟩
def addD : In := ⟨7, 0, 0, 0, 1⟩
def extD : In := ⟨149, 0, 0, 0, 0⟩
def midL : Nat → List In
  | 0 => []
  | n + 1 => midL n ++ [cmpD, addD]
def dblL (n : Nat) : List In := movD :: midL n ++ [extD]
theorem midL_len (n : Nat) : (midL n).length = 2 * n := by
  induction n with
  | zero => rfl
  | succ n ih => rw [midL, List.length_append, ih]; simp; omega
theorem dblL_len (n : Nat) : (dblL n).length = 2 * n + 2 := by simp [dblL, midL_len]
theorem midL_at : ∀ (n i : Nat), i < 2 * n → (midL n)[i]? = some (if i % 2 = 0 then cmpD else addD)
  | 0, i, h => by omega
  | n + 1, i, h => by
    rw [midL]
    by_cases hi : i < 2 * n
    · rw [List.getElem?_append_left (by rw [midL_len]; exact hi)]
      exact midL_at n i hi
    · rw [List.getElem?_append_right (by rw [midL_len]; omega), midL_len]
      rcases (by omega : i = 2 * n ∨ i = 2 * n + 1) with rfl | rfl
      · rw [if_pos (by omega)]; simp
      · rw [if_neg (by omega), show 2 * n + 1 - 2 * n = 1 by omega]; simp
theorem dblL_at (n i : Nat) (h : i < 2 * n + 2) : (dblL n)[i]? = some (if i = 0 then movD else if i = 2 * n + 1 then extD else if i % 2 = 1 then cmpD else addD) := by
  unfold dblL
  cases i with
  | zero => rfl
  | succ i =>
    rw [List.cons_append, List.getElem?_cons_succ, if_neg (by omega)]
    by_cases hi : i < 2 * n
    · rw [List.getElem?_append_left (by rw [midL_len]; exact hi), midL_at n i hi]
      by_cases e : i % 2 = 0
      · rw [if_pos e, if_neg (show ¬ i + 1 = 2 * n + 1 by omega), if_pos (show (i + 1) % 2 = 1 by omega)]
      · rw [if_neg e, if_neg (show ¬ i + 1 = 2 * n + 1 by omega), if_neg (show ¬ (i + 1) % 2 = 1 by omega)]
    · rw [List.getElem?_append_right (by rw [midL_len]; omega), midL_len, if_pos (by omega), show i - 2 * n = 0 by omega]
      rfl
theorem dblL_mem {n : Nat} {x : In} (h : x ∈ dblL n) : x = movD ∨ x = cmpD ∨ x = addD ∨ x = extD := by
  obtain ⟨i, hi⟩ := List.mem_iff_getElem?.1 h
  have hl := (List.getElem?_eq_some_iff.1 hi).1
  rw [dblL_len] at hl
  rw [dblL_at n i hl] at hi
  have := Option.some.inj hi
  rw [← this]
  split
  · exact .inl rfl
  · split
    · exact .inr (.inr (.inr rfl))
    · split
      · exact .inr (.inl rfl)
      · exact .inr (.inr (.inl rfl))
theorem dbl_ok (n : Nat) (h : n ≤ 200) : InsOk (dblL n) := ⟨by rw [dblL_len]; omega, fun x hx => by
  rcases dblL_mem hx with rfl | rfl | rfl | rfl <;> exact ⟨by decide, by decide, by decide, by decide, by decide⟩⟩
theorem dbl_nocall (n : Nat) : ∀ x ∈ dblL n, isCallB x = false := fun x hx => by
  rcases dblL_mem hx with rfl | rfl | rfl | rfl <;> rfl
theorem dbl_sec (n : Nat) : ∀ i, i < (dblL n).length → (secL (dblL n))[i]? = some false := sec_none fun x hx => by
  rcases dblL_mem hx with rfl | rfl | rfl | rfl <;> decide
theorem nocall_begins {l : List In} (hz : slotsC l = 0) (h : ∀ x ∈ l, isCallB x = false) : ∀ b ∈ beginsL l, b = 0 := fun b hb => by
  rcases ((begins_ok hz).2.1 b).1 hb with h0 | ⟨i, _, h0⟩
  · exact h0
  · exfalso
    unfold tgtC at h0
    cases hx : l[i]? with
    | none => rw [hx] at h0; cases h0
    | some x =>
      rw [hx] at h0
      have hc := h x (List.mem_of_getElem? hx)
      cases hs : (secL l)[i]? with
      | none => rw [hs] at h0; cases h0
      | some b =>
        rw [hs] at h0
        cases b
        · simp [hc] at h0
        · cases h0
theorem wrong_d {l : List In} {i : Nat} (x : In) (h : x = movD ∨ x = cmpD ∨ x = addD ∨ x = extD) : wrongC l i x = 0 := by
  rcases h with rfl | rfl | rfl | rfl <;> rfl
theorem dbl_check (n : Nat) (hn : n ≤ 200) : checkI (dblL n) = 0 := by
  have hlen := dblL_len n
  have hz : slotsC (dblL n) = 0 := slots_of (by omega) (by omega) (fun i x hx _ => wrong_d x (dblL_mem (List.mem_of_getElem? hx)))
  have hb := nocall_begins hz (dbl_nocall n)
  have hsame : ∀ i m, SameP (dblL n) i m := fun i m b hbm => by rw [hb b hbm]; omega
  refine check_va ⟨by omega, by omega, fun i x hx _ => wrong_d x (dblL_mem (List.mem_of_getElem? hx)), ?_, fun i x hx hs h149 h5 => ?_, fun i x hx hs hj => ?_⟩
  · have := len_le_of_sub (b := [0]) (rising_nodup (begins_ok hz).1) (fun b hbm => by rw [hb b hbm]; simp)
    simp at this
    omega
  · have hi := (List.getElem?_eq_some_iff.1 hx).1
    have hlt : i + 1 < (dblL n).length := by
      rcases Nat.lt_or_ge (i + 1) (dblL n).length with e | e
      · exact e
      · have hie : i = 2 * n + 1 := by omega
        rw [dblL_at n i (by omega), if_neg (by omega), if_pos hie] at hx
        cases hx
        exact absurd rfl h149
    have hbe : behI i x = i + 1 := by
      unfold behI
      rw [if_neg]
      rcases dblL_mem (List.mem_of_getElem? hx) with rfl | rfl | rfl | rfl <;> decide
    rw [hbe]
    exact ⟨hlt, dbl_sec n _ hlt, hsame _ _⟩
  · have hi := (List.getElem?_eq_some_iff.1 hx).1
    have hxc : x = cmpD := by
      rcases dblL_mem (List.mem_of_getElem? hx) with rfl | rfl | rfl | rfl
      · cases hj
      · rfl
      · cases hj
      · cases hj
    have hir : i + 2 < (dblL n).length := by
      rw [dblL_at n i (by omega), hxc] at hx
      by_cases h0 : i = 0
      · rw [if_pos h0] at hx; cases hx
      · rw [if_neg h0] at hx
        by_cases h1 : i = 2 * n + 1
        · rw [if_pos h1] at hx; cases hx
        · rw [if_neg h1] at hx
          by_cases h2 : i % 2 = 1
          · omega
          · rw [if_neg h2] at hx; cases hx
    subst hxc
    exact ⟨i + 2, by show (i : Int) + 1 + 1 = _; omega, hir, dbl_sec n _ hir, hsame _ _⟩
theorem dbl_next (n i : Nat) (x : In) (hx : (dblL n)[i]? = some x) : nextC i x = if i = 2 * n + 1 then [] else if i % 2 = 1 then [(i : Int) + 1, (i : Int) + 2] else [(i : Int) + 1] := by
  have hi := (List.getElem?_eq_some_iff.1 hx).1
  rw [dblL_len] at hi
  rw [dblL_at n i hi] at hx
  by_cases h0 : i = 0
  · subst h0
    rw [if_pos rfl] at hx
    cases hx
    rw [if_neg (by omega), if_neg (by omega)]
    rfl
  · rw [if_neg h0] at hx
    by_cases h1 : i = 2 * n + 1
    · rw [if_pos h1] at hx ⊢
      cases hx
      rfl
    · rw [if_neg h1] at hx ⊢
      by_cases h2 : i % 2 = 1
      · rw [if_pos h2] at hx ⊢
        cases hx
        show [(i : Int) + 1, (i : Int) + 1 + 1] = _
        rw [Int.add_assoc]
        rfl
      · rw [if_neg h2] at hx ⊢
        cases hx
        rfl
theorem dbl_cost (n : Nat) (hn : n ≤ 200) : costE (dblL n) = 0 := by
  refine ok_costE (dbl_check n hn) ?_ (nocall_depth (dbl_nocall n))
  rintro ⟨i, hi, x, hx, _, j, hj, hji⟩
  rw [dbl_next n i x hx] at hj
  split at hj
  · simp at hj
  · split at hj
    · simp at hj; omega
    · simp at hj; omega
theorem dbl_rch (n : Nat) : ∀ i, i < 2 * n + 2 → Rch (dblL n) i := by
  intro i
  induction i with
  | zero => exact fun _ => .zero
  | succ i ih =>
    intro hi
    obtain ⟨x, hx⟩ : ∃ x, (dblL n)[i]? = some x := ⟨_, List.getElem?_eq_getElem (by rw [dblL_len]; omega)⟩
    refine .step (ih (by omega)) ?_
    rw [succ_at hx, dbl_next n i x hx, if_neg (by omega)]
    split <;> simp
theorem dbl_val {R : RuleP} {n : Nat} {V rk : Nat → Nat} (h : Tells R (dblL n) V rk) (i : Nat) (hi : i < 2 * n + 2) :
    V i = if i = 2 * n + 1 then 1 else if i % 2 = 1 then R.a 1 (R.j (V (i + 1)) (V (i + 2))) else R.a 1 (V (i + 1)) := by
  obtain ⟨x, hx⟩ : ∃ x, (dblL n)[i]? = some x := ⟨_, List.getElem?_eq_getElem (by rw [dblL_len]; omega)⟩
  have hs : subB x = false := by
    rcases dblL_mem (List.mem_of_getElem? hx) with rfl | rfl | rfl | rfl <;> rfl
  rw [h.val i x (dbl_rch n i hi) hx, dbl_next n i x hx]
  have hc : calC R V i x = 1 := by unfold calC; rw [if_neg (by rw [hs]; decide)]
  rw [hc]
  have e1 : ((i : Int) + 1).toNat = i + 1 := by omega
  have e2 : ((i : Int) + 2).toNat = i + 2 := by omega
  split
  · rfl
  · split
    · show R.a 1 (R.j (V ((i : Int) + 1).toNat) (V ((i : Int) + 2).toNat)) = _
      rw [e1, e2]
    · show R.a 1 (V ((i : Int) + 1).toNat) = _
      rw [e1]
/-- what stands k comparisons ahead of the end -/
theorem dbl_down {R : RuleP} {n : Nat} {V rk : Nat → Nat} (h : Tells R (dblL n) V rk) (F : Nat → Nat) (h0 : F 0 = 1) (hs : ∀ k, k < n → R.a 1 (R.j (R.a 1 (F k)) (F k)) = F (k + 1)) : ∀ k, k ≤ n → V (2 * (n - k) + 1) = F k := by
  intro k
  induction k with
  | zero =>
    intro _
    rw [dbl_val h (2 * (n - 0) + 1) (by omega), if_pos (by omega), h0]
  | succ k ih =>
    intro hk
    have ih := ih (by omega)
    rw [dbl_val h (2 * (n - (k + 1)) + 1) (by omega), if_neg (by omega), if_pos (by omega)]
    have v1 := dbl_val h (2 * (n - (k + 1)) + 1 + 1) (by omega)
    rw [if_neg (by omega), if_neg (by omega)] at v1
    rw [v1]
    have e : 2 * (n - (k + 1)) + 1 + 2 = 2 * (n - k) + 1 := by omega
    have e' : 2 * (n - (k + 1)) + 1 + 1 + 1 = 2 * (n - k) + 1 := by omega
    first | rw [e, e', ih] | rw [e, ih]
    exact hs k (by omega)
theorem dbl_zero {R : RuleP} {n : Nat} {V rk : Nat → Nat} (h : Tells R (dblL n) V rk) (F : Nat → Nat) (h0 : F 0 = 1) (hs : ∀ k, k < n → R.a 1 (R.j (R.a 1 (F k)) (F k)) = F (k + 1)) : V 0 = R.a 1 (F n) := by
  rw [dbl_val h 0 (by omega), if_neg (by omega), if_neg (by omega)]
  have := dbl_down h F h0 hs n (Nat.le_refl _)
  rw [Nat.sub_self] at this
  rw [← this]
theorem dbl_long {n : Nat} (hn : n ≤ 200) {V rk : Nat → Nat} (h : Tells longR (dblL n) V rk) : V 0 = 2 + 2 * n := by
  rw [dbl_zero h (fun k => 1 + 2 * k) rfl (fun k hk => by
    show plusN 1 (max (plusN 1 (1 + 2 * k)) (1 + 2 * k)) = 1 + 2 * (k + 1)
    rw [plusN_small (a := 1) (b := 1 + 2 * k) (by unfold top; omega), Nat.max_eq_left (by omega), plusN_small (by unfold top; omega)]
    omega)]
  show plusN 1 (1 + 2 * n) = _
  rw [plusN_small (by unfold top; omega)]
  omega
theorem dbl_short {n : Nat} (hn : n ≤ 200) {V rk : Nat → Nat} (h : Tells shortR (dblL n) V rk) : V 0 = 2 + n := by
  rw [dbl_zero h (fun k => 1 + k) rfl (fun k hk => by
    show plusN 1 (min (plusN 1 (1 + k)) (1 + k)) = 1 + (k + 1)
    rw [plusN_small (a := 1) (b := 1 + k) (by unfold top; omega), Nat.min_eq_right (by omega), plusN_small (by unfold top; omega)]
    omega)]
  show plusN 1 (1 + n) = _
  rw [plusN_small (by unfold top; omega)]
  omega
def wantN (n : Nat) : Nat := if n < 63 then 2 ^ n else top
theorem timesN_one {b : Nat} (hb : b ≤ top) : timesN 1 b = b := by
  unfold timesN
  rw [if_neg, Nat.one_mul]
  rintro ⟨h1, h2⟩
  have := Nat.div_lt_one_iff h1 |>.1 h2
  omega
theorem wantN_top (n : Nat) : wantN n ≤ top := by
  unfold wantN
  split
  · rename_i h
    have := Nat.pow_le_pow_right (n := 2) (by omega) (show n ≤ 62 by omega)
    unfold top
    omega
  · exact Nat.le_refl _
theorem wantN_succ (k : Nat) : plusN (wantN k) (wantN k) = wantN (k + 1) := by
  unfold wantN
  by_cases h : k < 62
  · have := Nat.pow_le_pow_right (n := 2) (by omega) (show k ≤ 61 by omega)
    rw [if_pos (by omega), if_pos (by omega), plusN_small (by unfold top; omega), Nat.pow_succ]
    omega
  · rw [if_neg (show ¬ k + 1 < 63 by omega)]
    by_cases h2 : k < 63
    · have e : k = 62 := by omega
      subst e
      rw [if_pos h2]
      decide +kernel
    · rw [if_neg h2]
      decide +kernel
theorem dbl_ways {n : Nat} (hn : n ≤ 200) {V rk : Nat → Nat} (h : Tells waysR (dblL n) V rk) : V 0 = wantN n := by
  rw [dbl_zero h wantN rfl (fun k hk => by
    show timesN 1 (plusN (timesN 1 (wantN k)) (wantN k)) = wantN (k + 1)
    rw [timesN_one (wantN_top k), timesN_one (plusN_top (wantN_top k) (wantN_top k)), wantN_succ])]
  show timesN 1 (wantN n) = _
  exact timesN_one (wantN_top n)



/-! ### CostDouble -/
set_option maxHeartbeats 16000000 in
set_option maxRecDepth 100000 in
theorem walk_double (n : Int) (w : World) (hn : -9223372036854775808 ≤ n ∧ n ≤ 9223372036854775807) : Calls Try.prog 3 #[.int .i64 n] w fun e w' => e = .returned (.bool true) ∧ Kept (fun _ => False) w w' := by
  have HKN := Lib.hid known24_any
  by_cases h0 : n < 0
  · have hd : decide (n < 0) = true := decide_eq_true h0
    go_enter Try.func3, Try.ntmps3
    go_wp2_with fail
    refine (HKN.out w).mono ?_
    rintro e w1 ⟨rfl, hk1⟩
    go_wp2_with fail
    go_ret
    exact ⟨rfl, hk1⟩
  have hd : decide (n < 0) = false := decide_eq_false h0
  by_cases h2 : 200 < n
  · have hd2 : decide (200 < n) = true := decide_eq_true h2
    have hd2' : decide (n > 200) = true := decide_eq_true h2
    go_enter Try.func3, Try.ntmps3
    go_wp2_with fail
    refine (HKN.out w).mono ?_
    rintro e w1 ⟨rfl, hk1⟩
    go_wp2_with fail
    go_ret
    exact ⟨rfl, hk1⟩
  obtain ⟨N, rfl⟩ : ∃ N : Nat, n = N := ⟨n.toNat, by omega⟩
  have hN : N ≤ 200 := by omega
  have hd2 : decide ((200 : Int) < N) = false := decide_eq_false h2
  have hd2' : decide ((N : Int) > 200) = false := decide_eq_false h2
  have hdn : decide (200 < N) = false := decide_eq_false (by omega)
  clear hn h0 h2
  obtain ⟨i0, hI0, hI1, hI2, hI3⟩ := info_parts infoIn
  go_enter Try.func3, Try.ntmps3
  go_wp2_with fail
  refine (HKN.out w).mono ?_
  rintro e w1 ⟨rfl, hk1⟩
  go_wp2_with fail
  have hP0 : InS (w1.alloc (.cells #[.int .u8 183, .int .u8 0, .int .u8 0, .int .i16 0, .int .i32 0] 25)) (.slice (some ⟨w1.heap.size, 0, none⟩) 1 1) [movD] := inS_one w1 movD rfl
  have HP0 := Lib.hid (And.intro hP0 (hk1.alloc (.cells #[.int .u8 183, .int .u8 0, .int .u8 0, .int .i16 0, .int .i32 0] 25)))
  have hsz1 := hk1.size
  clear hP0 hk1 HKN
  go_loopw [3, 4] (fun pv iv wr => ∃ (i : Nat) (pv' : Value), iv = .int .i64 i ∧ pv' = pv ∧ i ≤ N ∧ InS wr pv' (movD :: midL i) ∧ (∀ g, pv'.ownBlock = some g → w.heap.size ≤ g) ∧ Kept (fun _ => False) w wr) (fun _ iv _ => N - (intOf iv).toNat)
  case atStart => exact ⟨0, _, rfl, rfl, by omega, HP0.out.1, fun g hg => by have : w1.heap.size = g := Option.some.inj hg; omega, HP0.out.2⟩
  case round =>
    clear HP0
    obtain ⟨i, pv, rfl, rfl, hi, hP, hown, hK⟩ := hrel
    have HP := Lib.hid hP
    have HOW := Lib.hid hown
    have HK := Lib.hid hK
    clear hP hown hK
    by_cases hil : i < N
    case pos =>
      have hdi : decide ((i : Int) < N) = true := decide_eq_true (by omega)
      have hM2 : Ins (wr.alloc (.cells #[.int .u8 21, .int .u8 0, .int .u8 0, .int .i16 1, .int .i32 0, .int .u8 7, .int .u8 0, .int .u8 0, .int .i16 0, .int .i32 1] 25)) (.slice (some ⟨wr.heap.size, 0, none⟩) 2 2) [cmpD, addD] := (inS_two wr cmpD addD rfl).ins
      have HM2 := Lib.hid hM2
      have hll : (movD :: midL i).length + 2 < 1073741824 := by rw [List.length_cons, midL_len]; omega
      clear hM2
      go_wp2_with (at_builtin; refine wpList_appendS rfl (.tmp 27) (.tmp 30) 26 rfl Try.underlying26 hI0 hI1 hI2 hI3 rfl pv _ (movD :: midL i) [cmpD, addD] rfl rfl (Sl.alloc HP.out _) HM2.out (by simp) hll ?_; intro v5 w5 hS5 hk5 hv5)
      have H5 := Lib.hid (And.intro hS5 (And.intro hk5 hv5))
      clear hS5 hk5 hv5
      go_roundw
      case rel => exact ⟨i + 1, _, by simp, rfl, by omega, H5.out.1, fun g hg => by
        rcases H5.out.2.2 g hg with h | h
        · exact HOW.out g h
        · have := HK.out.size
          have h : (wr.alloc _).heap.size ≤ g := h
          simp at h
          omega, (HK.out.alloc _).trans H5.out.2.1 (fun k hk e => by have := HOW.out k e; omega)⟩
      case measure => (simp [intOf]; omega)
    case neg =>
      obtain rfl : i = N := by omega
      have hdi : decide ((i : Int) < i) = false := decide_eq_false (by omega)
      have hM2 : Ins (wr.alloc (.cells #[.int .u8 149, .int .u8 0, .int .u8 0, .int .i16 0, .int .i32 0] 25)) (.slice (some ⟨wr.heap.size, 0, none⟩) 1 1) [extD] := (inS_one wr extD rfl).ins
      have HM2 := Lib.hid hM2
      have hll : (movD :: midL i).length + 1 < 1073741824 := by rw [List.length_cons, midL_len]; omega
      clear hM2
      go_wp2_with (at_builtin; refine wpList_appendS rfl (.tmp 32) (.tmp 34) 26 rfl Try.underlying26 hI0 hI1 hI2 hI3 rfl pv _ (movD :: midL i) [extD] rfl rfl (Sl.alloc HP.out _) HM2.out (by simp) hll ?_; intro v5 w5 hS5 hk5 hv5)
      have hS6 : InS w5 v5 (dblL i) := hS5
      obtain ⟨va, vc, rfl⟩ := Sl.any hS6
      have hll2 : (List.map icells (dblL i)).length = (dblL i).length := List.length_map _
      rw [hll2] at hS6 ⊢
      have hI5 := hS6.ins
      have hK5 : Kept (fun _ => False) w w5 := (HK.out.alloc _).trans hk5 (fun k hk e => by have := HOW.out k e; omega)
      have hok := dbl_ok i hN
      have hce := dbl_cost i hN
      have HL := Lib.hid (fun W hI => cLongest_any (dblL i) va vc W hI hok (fun h => tells_of longR h))
      have HSH := Lib.hid (fun W hI => cShortest_any (dblL i) va vc W hI hok (fun h => tells_of shortR h))
      have HWA := Lib.hid (fun W hI => cWays_any (dblL i) va vc W hI hok (fun h => tells_of waysR h))
      rw [hce] at HL HSH HWA
      clear hS5 hS6 hk5 hv5 HP HOW HK HM2 hll hll2 hok hce
      refine (HL.out w5 hI5).mono ?_
      rintro e w6 ⟨⟨r6, rfl, h6, _⟩, hk6⟩
      obtain ⟨V6, rk6, hT6, rfl⟩ := h6 rfl
      have hv6 := dbl_long hN hT6
      rw [hv6]
      have hI6 := hI5.kept hk6
      have hK6 := hK5.trans hk6 (fun _ _ h => h)
      clear h6 hT6 hv6 hk6 HL hI5 hK5
      go_wp2_with fail
      refine (HSH.out w6 hI6).mono ?_
      rintro e w7 ⟨⟨r7, rfl, h7, _⟩, hk7⟩
      obtain ⟨V7, rk7, hT7, rfl⟩ := h7 trivial
      have hv7 := dbl_short hN hT7
      rw [hv7]
      have hI7 := hI6.kept hk7
      have hK7 := hK6.trans hk7 (fun _ _ h => h)
      clear h7 hT7 hv7 hk7 HSH hI6 hK6
      go_wp2_with fail
      refine (HWA.out w7 hI7).mono ?_
      rintro e w8 ⟨⟨r8, rfl, h8, _⟩, hk8⟩
      obtain ⟨V8, rk8, hT8, rfl⟩ := h8 trivial
      have hv8 := dbl_ways hN hT8
      rw [hv8]
      have hK8 := hK7.trans hk8 (fun _ _ h => h)
      clear h8 hT8 hv8 hk8 HWA hI7 hK7
      unfold wantN top
      by_cases h63 : i < 63
      · have hd63 : decide ((i : Int) < 63) = true := decide_eq_true (by omega)
        have hd63n : decide (i < 63) = true := decide_eq_true h63
        rw [if_pos h63]
        have hp62 := Nat.pow_le_pow_right (n := 2) (by omega) (show i ≤ 62 by omega)
        have hpi : ((2 ^ i : Nat) : Int) = (2 : Int) ^ i := by simp
        have hw0 : (0 : Int) ≤ (2 : Int) ^ i := by rw [← hpi]; exact Int.natCast_nonneg _
        have hw1 : (2 : Int) ^ i ≤ 4611686018427387904 := by rw [← hpi]; omega
        have hw : IntKind.u64.wrap ((2 : Int) ^ i) = (2 : Int) ^ i := by
          clear hpi hp62
          generalize (2 : Int) ^ i = d at *
          simp only [IntKind.wrap, IntKind.bits, IntKind.signed]
          simp
          omega
        clear hp62 hw0 hw1
        go_wp2_with fail
        go_ret
        exact ⟨by simp, hK8⟩
      · have hd63 : decide ((i : Int) < 63) = false := decide_eq_false (by omega)
        have hd63n : decide (i < 63) = false := decide_eq_false h63
        rw [if_neg h63]
        go_wp2_with fail
        go_ret
        exact ⟨rfl, hK8⟩

end Go.Proofs.Ytlkgmcacbfoijaa

import Derived.Test.YtlkgmcacbfoijaaGreatQjx
set_option linter.unusedSimpArgs false
set_option linter.unusedVariables false
namespace Go.Proofs.YtlkgmcacbfoijaaGreat
open Go.RowKit

/-! ### 'if rD SIGN s goto +O' -/
/-- what a reader of a line tells -/
def SlO (w : World) (R : Option (List In)) (e : Ending) (w' : World) : Prop :=
  (∃ v, e = .returned (.tuple #[v, .bool R.isSome]) ∧ (∀ l, R = some l → InS w' v l) ∧ ∀ k, v.ownBlock = some k → w.heap.size ≤ k) ∧ Kept (fun _ => False) w w'
/-- the first of these signs that s is, from i on -/
def sgU (sg : Nat → List UInt8) (s : List UInt8) : Nat → Nat → Option Nat
  | _, 0 => none
  | i, n + 1 => if (sg i == s) = false then sgU sg s (i + 1) n else if (s == []) = true then sgU sg s (i + 1) n else some i
def orR (op a o : Int) (r : Option Nat) (v : Option Int) : Option (List In) := match r, v with
  | some b, _ => some [⟨op + 8, a, b, o, 0⟩]
  | none, some v => some [⟨op, a, 0, o, v⟩]
  | none, none => none
def cmpQ (op o : Int) (a : Option Nat) (r : Option Nat) (v : Option Int) : Option (List In) := match a with
  | none => none
  | some a => orR op a o r v
def cmpC (cls letter : Int) (s1 s3 : List UInt8) (o : Int) (i : Nat) : Option (List In) := cmpQ (16 * (i : Int) + cls) o (regS s1 letter) (regS s3 letter) (immS s3)
def cmpAt (s1 s3 : List UInt8) (o : Int) (i : Nat) : Option (List In) := if (s1 == []) = true then cmpC 5 114 s1 s3 o i else if (ch s1 0 == 119) = true then cmpC 6 119 s1 s3 o i else cmpC 5 114 s1 s3 o i
def cmpF (s1 s3 : List UInt8) (o : Int) (i : Option Nat) : Option (List In) := match i with
  | none => none
  | some i => cmpAt s1 s3 o i
def cmpO (s1 s2 s3 : List UInt8) (o : Option Int) : Option (List In) := match o with
  | none => none
  | some o => cmpF s1 s3 o (sgU cmpS s2 0 14)
def compareS (s1 s2 s3 s5 : List UInt8) : Option (List In) := cmpO s1 s2 s3 (offS s5 32767)
theorem own_one {a n k : Nat} (ha : a ≤ n) (h : (Value.slice (some ⟨n + 1, 0, none⟩) 1 1).ownBlock = some k) : a ≤ k := by
  have : n + 1 = k := Option.some.inj h
  omega
theorem regS_le {s : List UInt8} {l : Int} {v : Nat} (h : regS s l = some v) : v ≤ 10 := by
  unfold regS at h
  split at h
  · cases h
  · split at h
    · cases h
    · unfold regP at h
      split at h
      · cases h
      · split at h
        · cases h
          assumption
        · cases h
set_option maxHeartbeats 8000000 in
set_option maxRecDepth 100000 in
theorem compare_any (s0 s1 s2 s3 s4 s5 : List UInt8) (g cap : Nat) (w : World) (h : Strs w (.slice (some ⟨g, 0, none⟩) 6 cap) [s0, s1, s2, s3, s4, s5]) (h1 : s1.length ≤ 1000000) (h3 : s3.length ≤ 1000000) (h5 : s5.length ≤ 1000000) :
    Calls Tryz.prog 86 #[.slice (some ⟨g, 0, none⟩) 6 cap] w fun e w' => SlO w (compareS s1 s2 s3 s5) e w' := by
  have c5 := Strs.cell h (i := 5) (x := s5) rfl
  have hlt := Sl.lt h g rfl
  have HN := Lib.hid (fun k hk W => cmpSign_any k hk W)
  have HC : Hid (∀ W W', Strs W (.slice (some ⟨g, 0, none⟩) 6 cap) [s0, s1, s2, s3, s4, s5] ∧ Kept (fun _ => False) w W → Kept (fun _ => False) W W' → Strs W' (.slice (some ⟨g, 0, none⟩) 6 cap) [s0, s1, s2, s3, s4, s5] ∧ Kept (fun _ => False) w W') := Lib.hid (fun W W' h hk => ⟨Sl.kept hk h.1 fun k hk h => h, h.2.trans hk (fun _ _ h => h)⟩)
  obtain ⟨R, hR⟩ : ∃ R, compareS s1 s2 s3 s5 = R := ⟨_, rfl⟩
  rw [hR]
  unfold compareS at hR
  have HO := Lib.hid (fun W => off_any s5 32767 W h5 (by omega))
  have HOR : Hid (∀ v, offS s5 32767 = some v → -32768 ≤ v ∧ v ≤ 32767) := Lib.hid (fun v hv => by have := offS_range hv (by omega); omega)
  generalize offS s5 32767 = oo at *
  have HH := Lib.hid h
  clear h
  cases oo with
  | none =>
    have hR : none = R := hR
    subst hR
    go_enter Tryz.func86, Tryz.ntmps86
    go_wp2_with fail
    refine (HO.out _).mono ?_
    rintro e w1 ⟨⟨x, rfl, hx, hx1, hx2⟩, rfl⟩
    clear hx
    go_wp2_with fail
    refine bodyPost_ret (v := .tuple #[.slice none 0 0, .bool false]) (by simp [results, Tryz.results86, go_sem]) rfl ?_
    exact ⟨⟨_, rfl, fun l h => by (cases h), fun k hk => own_none hk⟩, Kept.refl _ w⟩
  | some o =>
  have hR : cmpF s1 s3 o (sgU cmpS s2 0 14) = R := hR
  have ho := HOR.out o rfl
  go_enter Tryz.func86, Tryz.ntmps86
  go_wp2_with fail
  refine (HO.out _).mono ?_
  rintro e w1 ⟨⟨x, rfl, hx, hx1, hx2⟩, rfl⟩
  obtain rfl := hx o rfl
  clear hx HO HOR c5
  have HR := Lib.hid hR
  clear hR
  go_wp2_with fail
  go_loopw [6] (fun iv wr => ∃ i : Nat, iv = .int .i64 i ∧ i ≤ 14 ∧ (Strs wr (.slice (some ⟨g, 0, none⟩) 6 cap) [s0, s1, s2, s3, s4, s5] ∧ Kept (fun _ => False) w wr) ∧ cmpF s1 s3 x (sgU cmpS s2 i (14 - i)) = R) (fun iv _ => 14 - (intOf iv).toNat)
  case atStart => exact ⟨0, rfl, by omega, ⟨HH.out, Kept.refl _ w⟩, HR.out⟩
  case round =>
    obtain ⟨i, rfl, hi, hw, hr⟩ := hrel
    clear HH HR hlt
    have HW := Lib.hid hw
    have HS := Lib.hid hr
    clear hw hr
    by_cases hi14 : i = 14
    · subst hi14
      have hR : none = R := HS.out
      subst hR
      go_wp2_with fail
      refine bodyPost_ret (v := .tuple #[.slice none 0 0, .bool false]) (by simp [results, Tryz.results86, go_sem]) rfl ?_
      exact ⟨⟨_, rfl, fun l h => by (cases h), fun k hk => own_none hk⟩, HW.out.2⟩
    have hi13 : i ≤ 13 := by omega
    have hd13 : decide ((i : Int) ≤ 13) = true := decide_eq_true (by omega)
    clear hi14
    have HS1 : Hid (cmpF s1 s3 x (if (cmpS i == s2) = false then sgU cmpS s2 (i + 1) (14 - (i + 1)) else if (s2 == []) = true then sgU cmpS s2 (i + 1) (14 - (i + 1)) else some i) = R) := Lib.hid (by
      have h14 : 14 - i = (14 - (i + 1)) + 1 := by omega
      have := HS.out
      rw [h14] at this
      exact this)
    clear HS
    cases q : (cmpS i == s2)
    case false =>
      have hnx : Hid (cmpF s1 s3 x (sgU cmpS s2 (i + 1) (14 - (i + 1))) = R) := Lib.hid (by have := HS1.out; rwa [if_pos q] at this)
      have HQ := Lib.hid q
      have hqn : (!(cmpS i == s2)) = true := by rw [q]; rfl
      clear HS1
      go_wp2_with fail
      refine wp_region_mix [.w, .k, .w, .w, .l, .w, .w, .w, .w, .l, .w, .w] (by kernel_rfl) (by kernel_rfl) (fun W => Strs W (.slice (some ⟨g, 0, none⟩) 6 cap) [s0, s1, s2, s3, s4, s5] ∧ Kept (fun _ => False) w W) ?_
      have hcd := HC.out wr _ HW.out (Kept.refl _ wr).drew
      repeat (refine mix_w1 ?_; go_big_quiet_step (fail); refine wpQuiet_nil ?_)
      refine mix_k hcd fun Q' hQ' => ?_
      go_wp2_with fail
      refine (HN.out i hi13 _).mono ?_
      rintro e w6 ⟨rfl, hk6⟩
      have hc6 := HC.out _ w6 hcd hk6
      go_wp2_with fail
      refine hQ' _ _ hc6 ?_
      clear hQ' Q' hcd hk6
      repeat (refine mix_w1 ?_; go_big_quiet_step (fail); refine wpQuiet_nil ?_)
      refine mix_load1 hc6 rfl 9 (.tmp 30) rfl naST ⟨g, 2, none⟩ (stV s2) rfl (fun w' hw' => Strs.cell hw'.1 (i := 2) rfl) ?_
      simp only [Act.put, List.setIfInBounds_toArray, List.set_cons_succ, List.set_cons_zero]
      repeat (first
        | (refine mix_w1 ?_; go_big_quiet_step (fail); refine wpQuiet_nil ?_)
        | (refine mix_l1 hc6 ?_; go_big_quiet_step (fail); refine wpQuiet_nil ?_))
      refine mix_done ?_
      have HC6 := Lib.hid hc6
      clear hc6
      go_wp2_with fail
      go_roundw
      case rel => exact ⟨i + 1, by simp, by omega, HC6.out, hnx.out⟩
      case measure => (simp [intOf]; omega)
    case true =>
    have hqn : (!(cmpS i == s2)) = false := by rw [q]; rfl
    have HS2 : Hid (cmpF s1 s3 x (if (s2 == []) = true then sgU cmpS s2 (i + 1) (14 - (i + 1)) else some i) = R) := Lib.hid (by have := HS1.out; rwa [if_neg (by rw [q]; decide)] at this)
    clear HS1
    cases q2 : (s2 == [])
    all_goals
      have HQ := Lib.hid q2
      go_wp2_with fail
      refine wp_region_mix [.w, .k, .w, .w, .l, .w, .w, .w, .w, .l, .w, .w] (by kernel_rfl) (by kernel_rfl) (fun W => Strs W (.slice (some ⟨g, 0, none⟩) 6 cap) [s0, s1, s2, s3, s4, s5] ∧ Kept (fun _ => False) w W) ?_
      have hcd := HC.out wr _ HW.out (Kept.refl _ wr).drew
      repeat (refine mix_w1 ?_; go_big_quiet_step (fail); refine wpQuiet_nil ?_)
      refine mix_k hcd fun Q' hQ' => ?_
      go_wp2_with fail
      refine (HN.out i hi13 _).mono ?_
      rintro e w6 ⟨rfl, hk6⟩
      have hc6 := HC.out _ w6 hcd hk6
      go_wp2_with fail
      refine hQ' _ _ hc6 ?_
      clear hQ' Q' hcd hk6
      repeat (refine mix_w1 ?_; go_big_quiet_step (fail); refine wpQuiet_nil ?_)
      refine mix_load1 hc6 rfl 9 (.tmp 30) rfl naST ⟨g, 2, none⟩ (stV s2) rfl (fun w' hw' => Strs.cell hw'.1 (i := 2) rfl) ?_
      simp only [Act.put, List.setIfInBounds_toArray, List.set_cons_succ, List.set_cons_zero]
      repeat (refine mix_w1 ?_; go_big_quiet_step (fail); refine wpQuiet_nil ?_)
      refine mix_loadG hc6 (by simp [Region.wanted, yielded, hqn]) 9 (.tmp 35) rfl naST ⟨g, 2, none⟩ (stV s2) rfl (fun w' hw' => Strs.cell hw'.1 (i := 2) rfl) ?_
      simp only [Act.put, List.setIfInBounds_toArray, List.set_cons_succ, List.set_cons_zero]
      repeat (refine mix_w1 ?_; go_big_quiet_step (fail); refine wpQuiet_nil ?_)
      refine mix_done ?_
      have HC6 := Lib.hid hc6
      clear hc6
    rotate_left
    · have hnx : Hid (cmpF s1 s3 x (sgU cmpS s2 (i + 1) (14 - (i + 1))) = R) := Lib.hid (by have := HS2.out; rwa [if_pos HQ.out] at this)
      go_wp2_with fail
      go_roundw
      case rel => exact ⟨i + 1, by simp, by omega, HC6.out, hnx.out⟩
      case measure => (simp [intOf]; omega)
    have hR : cmpAt s1 s3 x i = R := by have := HS2.out; rwa [if_neg (by rw [HQ.out]; decide)] at this
    clear HS2 HC HN
    have cc1 := Strs.cell HC6.out.1 (i := 1) (x := s1) rfl
    have cc3 := Strs.cell HC6.out.1 (i := 3) (x := s3) rfl
    have hgs := Sl.lt HC6.out.1 g rfl
    unfold cmpAt at hR
    cases e1 : (s1 == [])
    case true =>
      rw [if_pos e1] at hR
      have hs1 : s1 = [] := by simpa using e1
      subst hs1
      clear e1
      have HA := Lib.hid (fun W => register_any [] 114 W h1)
      have HB := Lib.hid (fun W => register_any s3 114 W h3)
      have HI := Lib.hid (fun W => imm_any s3 W h3)
      have hR : cmpQ (16 * (i : Int) + 5) x (regS [] 114) (regS s3 114) (immS s3) = R := hR
      generalize regS [] 114 = ra at *
      generalize regS s3 114 = rb at *
      generalize immS s3 = vi at *
      have HR := Lib.hid hR
      clear hR HQ q q2 hqn
      cases ra with
      | none =>
        have hR : none = R := HR.out
        subst hR
        go_wp2_with fail
        refine (HA.out _).mono ?_
        rintro e w7 ⟨⟨y, rfl, hy⟩, rfl⟩
        clear hy
        go_wp2_with fail
        refine bodyPost_ret (v := .tuple #[.slice none 0 0, .bool false]) (by simp [results, Tryz.results86, go_sem]) rfl ?_
        exact ⟨⟨_, rfl, fun l h => by (cases h), fun k hk => own_none hk⟩, HC6.out.2.alloc _⟩
      | some a =>
        go_wp2_with fail
        refine (HA.out _).mono ?_
        rintro e w7 ⟨⟨y, rfl, hy⟩, rfl⟩
        obtain rfl := hy a rfl
        clear hy HA
        go_wp2_with fail
        refine (HB.out _).mono ?_
        rintro e w8 ⟨⟨z, rfl, hz⟩, rfl⟩
        cases rb with
        | some b =>
          obtain rfl := hz b rfl
          clear hz HB
          have hR : some [(⟨16 * (i : Int) + 5 + 8, a, b, x, 0⟩ : In)] = R := HR.out
          subst hR
          go_wp2_with fail
          refine bodyPost_ret (v := .tuple #[.slice (some ⟨w6.heap.size + 1, 0, none⟩) 1 1, .bool true]) (by simp [results, Tryz.results86, go_sem]) rfl ?_
          refine ⟨⟨_, rfl, fun l h => ?_, fun k hk => own_one HC6.out.2.size hk⟩, (HC6.out.2.alloc _).alloc _⟩
          cases h
          exact inS_one _ ⟨16 * (i : Int) + 5 + 8, a, b, x, 0⟩ (by simp)
        | none =>
          clear hz HB
          go_wp2_with fail
          refine (HI.out _).mono ?_
          rintro e w9 ⟨⟨v, rfl, hv⟩, rfl⟩
          cases vi with
          | none =>
            clear hv
            have hR : none = R := HR.out
            subst hR
            go_wp2_with fail
            refine bodyPost_ret (v := .tuple #[.slice (some ⟨w6.heap.size + 1, 0, none⟩) 1 1, .bool false]) (by simp [results, Tryz.results86, go_sem]) rfl ?_
            exact ⟨⟨_, rfl, fun l h => by (cases h), fun k hk => own_one HC6.out.2.size hk⟩, (HC6.out.2.alloc _).alloc _⟩
          | some v' =>
            obtain rfl := hv v' rfl
            clear hv
            have hR : some [(⟨16 * (i : Int) + 5, a, 0, x, v⟩ : In)] = R := HR.out
            subst hR
            go_wp2_with fail
            refine bodyPost_ret (v := .tuple #[.slice (some ⟨w6.heap.size + 1, 0, none⟩) 1 1, .bool true]) (by simp [results, Tryz.results86, go_sem]) rfl ?_
            refine ⟨⟨_, rfl, fun l h => ?_, fun k hk => own_one HC6.out.2.size hk⟩, (HC6.out.2.alloc _).alloc _⟩
            cases h
            exact inS_one _ ⟨16 * (i : Int) + 5, a, 0, x, v⟩ (by simp)
    case false =>
    rw [if_neg (by rw [e1]; decide)] at hR
    have hpos : 0 < s1.length := by cases s1 with
      | nil => cases e1
      | cons => simp
    have hem : s1.isEmpty = false := by cases s1 with
      | nil => cases e1
      | cons => rfl
    have hem2 : (!(s1 == [])) = true := by rw [e1]; rfl
    have hix0 : ∀ W, (Instr.index 9 (.string ⟨s1.toArray⟩) (.int .i64 0)).run Tryz.prog W = .ok (.int .u8 (ch s1 0)) W := fun W => ch_index (i := 0) (by omega) W
    generalize ch s1 0 = c0 at *
    cases e2 : (c0 == 119)
    case true =>
      rw [if_pos e2] at hR
      have HA := Lib.hid (fun W => register_any s1 119 W h1)
      have HB := Lib.hid (fun W => register_any s3 119 W h3)
      have HI := Lib.hid (fun W => imm_any s3 W h3)
      have hR : cmpQ (16 * (i : Int) + 6) x (regS s1 119) (regS s3 119) (immS s3) = R := hR
      generalize regS s1 119 = ra at *
      generalize regS s3 119 = rb at *
      generalize immS s3 = vi at *
      have HR := Lib.hid hR
      clear hR HQ q q2 hqn
      cases ra with
      | none =>
        have hR : none = R := HR.out
        subst hR
        go_wp2_with fail
        refine (HA.out _).mono ?_
        rintro e w7 ⟨⟨y, rfl, hy⟩, rfl⟩
        clear hy
        go_wp2_with fail
        refine bodyPost_ret (v := .tuple #[.slice none 0 0, .bool false]) (by simp [results, Tryz.results86, go_sem]) rfl ?_
        exact ⟨⟨_, rfl, fun l h => by (cases h), fun k hk => own_none hk⟩, HC6.out.2.alloc _⟩
      | some a =>
        go_wp2_with fail
        refine (HA.out _).mono ?_
        rintro e w7 ⟨⟨y, rfl, hy⟩, rfl⟩
        obtain rfl := hy a rfl
        clear hy HA
        go_wp2_with fail
        refine (HB.out _).mono ?_
        rintro e w8 ⟨⟨z, rfl, hz⟩, rfl⟩
        cases rb with
        | some b =>
          obtain rfl := hz b rfl
          clear hz HB
          have hR : some [(⟨16 * (i : Int) + 6 + 8, a, b, x, 0⟩ : In)] = R := HR.out
          subst hR
          go_wp2_with fail
          refine bodyPost_ret (v := .tuple #[.slice (some ⟨w6.heap.size + 1, 0, none⟩) 1 1, .bool true]) (by simp [results, Tryz.results86, go_sem]) rfl ?_
          refine ⟨⟨_, rfl, fun l h => ?_, fun k hk => own_one HC6.out.2.size hk⟩, (HC6.out.2.alloc _).alloc _⟩
          cases h
          exact inS_one _ ⟨16 * (i : Int) + 6 + 8, a, b, x, 0⟩ (by simp)
        | none =>
          clear hz HB
          go_wp2_with fail
          refine (HI.out _).mono ?_
          rintro e w9 ⟨⟨v, rfl, hv⟩, rfl⟩
          cases vi with
          | none =>
            clear hv
            have hR : none = R := HR.out
            subst hR
            go_wp2_with fail
            refine bodyPost_ret (v := .tuple #[.slice (some ⟨w6.heap.size + 1, 0, none⟩) 1 1, .bool false]) (by simp [results, Tryz.results86, go_sem]) rfl ?_
            exact ⟨⟨_, rfl, fun l h => by (cases h), fun k hk => own_one HC6.out.2.size hk⟩, (HC6.out.2.alloc _).alloc _⟩
          | some v' =>
            obtain rfl := hv v' rfl
            clear hv
            have hR : some [(⟨16 * (i : Int) + 6, a, 0, x, v⟩ : In)] = R := HR.out
            subst hR
            go_wp2_with fail
            refine bodyPost_ret (v := .tuple #[.slice (some ⟨w6.heap.size + 1, 0, none⟩) 1 1, .bool true]) (by simp [results, Tryz.results86, go_sem]) rfl ?_
            refine ⟨⟨_, rfl, fun l h => ?_, fun k hk => own_one HC6.out.2.size hk⟩, (HC6.out.2.alloc _).alloc _⟩
            cases h
            exact inS_one _ ⟨16 * (i : Int) + 6, a, 0, x, v⟩ (by simp)
    case false =>
      rw [if_neg (by rw [e2]; decide)] at hR
      have HA := Lib.hid (fun W => register_any s1 114 W h1)
      have HB := Lib.hid (fun W => register_any s3 114 W h3)
      have HI := Lib.hid (fun W => imm_any s3 W h3)
      have hR : cmpQ (16 * (i : Int) + 5) x (regS s1 114) (regS s3 114) (immS s3) = R := hR
      generalize regS s1 114 = ra at *
      generalize regS s3 114 = rb at *
      generalize immS s3 = vi at *
      have HR := Lib.hid hR
      clear hR HQ q q2 hqn
      cases ra with
      | none =>
        have hR : none = R := HR.out
        subst hR
        go_wp2_with fail
        refine (HA.out _).mono ?_
        rintro e w7 ⟨⟨y, rfl, hy⟩, rfl⟩
        clear hy
        go_wp2_with fail
        refine bodyPost_ret (v := .tuple #[.slice none 0 0, .bool false]) (by simp [results, Tryz.results86, go_sem]) rfl ?_
        exact ⟨⟨_, rfl, fun l h => by (cases h), fun k hk => own_none hk⟩, HC6.out.2.alloc _⟩
      | some a =>
        go_wp2_with fail
        refine (HA.out _).mono ?_
        rintro e w7 ⟨⟨y, rfl, hy⟩, rfl⟩
        obtain rfl := hy a rfl
        clear hy HA
        go_wp2_with fail
        refine (HB.out _).mono ?_
        rintro e w8 ⟨⟨z, rfl, hz⟩, rfl⟩
        cases rb with
        | some b =>
          obtain rfl := hz b rfl
          clear hz HB
          have hR : some [(⟨16 * (i : Int) + 5 + 8, a, b, x, 0⟩ : In)] = R := HR.out
          subst hR
          go_wp2_with fail
          refine bodyPost_ret (v := .tuple #[.slice (some ⟨w6.heap.size + 1, 0, none⟩) 1 1, .bool true]) (by simp [results, Tryz.results86, go_sem]) rfl ?_
          refine ⟨⟨_, rfl, fun l h => ?_, fun k hk => own_one HC6.out.2.size hk⟩, (HC6.out.2.alloc _).alloc _⟩
          cases h
          exact inS_one _ ⟨16 * (i : Int) + 5 + 8, a, b, x, 0⟩ (by simp)
        | none =>
          clear hz HB
          go_wp2_with fail
          refine (HI.out _).mono ?_
          rintro e w9 ⟨⟨v, rfl, hv⟩, rfl⟩
          cases vi with
          | none =>
            clear hv
            have hR : none = R := HR.out
            subst hR
            go_wp2_with fail
            refine bodyPost_ret (v := .tuple #[.slice (some ⟨w6.heap.size + 1, 0, none⟩) 1 1, .bool false]) (by simp [results, Tryz.results86, go_sem]) rfl ?_
            exact ⟨⟨_, rfl, fun l h => by (cases h), fun k hk => own_one HC6.out.2.size hk⟩, (HC6.out.2.alloc _).alloc _⟩
          | some v' =>
            obtain rfl := hv v' rfl
            clear hv
            have hR : some [(⟨16 * (i : Int) + 5, a, 0, x, v⟩ : In)] = R := HR.out
            subst hR
            go_wp2_with fail
            refine bodyPost_ret (v := .tuple #[.slice (some ⟨w6.heap.size + 1, 0, none⟩) 1 1, .bool true]) (by simp [results, Tryz.results86, go_sem]) rfl ?_
            refine ⟨⟨_, rfl, fun l h => ?_, fun k hk => own_one HC6.out.2.size hk⟩, (HC6.out.2.alloc _).alloc _⟩
            cases h
            exact inS_one _ ⟨16 * (i : Int) + 5, a, 0, x, v⟩ (by simp)

end Go.Proofs.YtlkgmcacbfoijaaGreat


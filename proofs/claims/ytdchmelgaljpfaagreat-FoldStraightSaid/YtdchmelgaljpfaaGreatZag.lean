import Derived.Test.YtdchmelgaljpfaaGreatZaf
set_option linter.unusedSimpArgs false
set_option linter.unusedVariables false
namespace Go.Proofs.YtdchmelgaljpfaaGreat
open Go.RowKit

/-! ### 'rD SIGN s', 'rD = ..' -/
def asgF (cls letter d : Int) (s2 : List UInt8) (i : Option Nat) : Option (List In) := match i with
  | none => none
  | some i => orR (16 * (i : Int) + cls) d 0 (regS s2 letter) (immS s2)
def asg3 (cls letter d : Int) (s0 s1 s2 : List UInt8) : Option (List In) := if (s1 == [61]) = true then (if (s2 == 45 :: s0) = true then some [⟨128 + cls, d, 0, 0, 0⟩] else asgF cls letter d s2 (sgU aluS s1 0 13)) else asgF cls letter d s2 (sgU aluS s1 0 13)
def plA (d : Int) (p : Option (Int × Nat × Int)) : Option (List In) := match p with
  | none => none
  | some v => some [⟨v.1 + 1, d, v.2.1, v.2.2, 0⟩]
def asg4 (wide : Bool) (d : Int) (s0 s1 s2 s3 : List UInt8) : Option (List In) := if (s1 == [61]) = true then (if wide = true then specialS s0 s2 s3 d else none) else none
def asg5 (wide : Bool) (d : Int) (s1 s2 s3 s4 : List UInt8) : Option (List In) := if (s1 == [61]) = true then (if wide = true then plA d (placeS s2 s3 s4) else none) else none
def asgX (cls letter : Int) (wide : Bool) (d : Int) (s0 s1 s2 : List UInt8) : List (List UInt8) → Option (List In)
  | [] => asg3 cls letter d s0 s1 s2
  | [s3] => asg4 wide d s0 s1 s2 s3
  | [s3, s4] => asg5 wide d s1 s2 s3 s4
  | _ => none
def asgD (l : Int) (r : Option Nat) (s0 s1 s2 : List UInt8) (rest : List (List UInt8)) : Option (List In) := match r with
  | none => none
  | some d => if (l == 114) = true then asgX 7 114 true d s0 s1 s2 rest else if (l == 119) = true then asgX 4 119 false d s0 s1 s2 rest else none
def assignS : List (List UInt8) → Option (List In)
  | s0 :: s1 :: s2 :: rest => if (s0 == []) = true then none else asgD (ch s0 0) (regS s0 (ch s0 0)) s0 s1 s2 rest
  | _ => none
theorem own_at {a n k : Nat} (ha : a ≤ n) (h : (Value.slice (some ⟨n, 0, none⟩) 1 1).ownBlock = some k) : a ≤ k := by
  have : n = k := Option.some.inj h
  omega
theorem placeS_op {a b c : List UInt8} {v : Int × Nat × Int} (h : placeS a b c = some v) : (v.1 = 96 ∨ v.1 = 104 ∨ v.1 = 112 ∨ v.1 = 120) ∧ v.2.1 ≤ 10 ∧ -32768 ≤ v.2.2 ∧ v.2.2 ≤ 32767 := by
  unfold placeS at h
  split at h
  · cases h
  · rename_i h0
    split at h
    · cases h
    · split at h
      · cases h
      · split at h
        · cases h
        · split at h
          · cases h
          · unfold pairP at h
            split at h
            · rename_i r o hr ho
              cases h
              have h1 := szU_cases a 4 (by omega)
              have h2 := regS_le hr
              have h3 := offS_range ho (by omega)
              have h4 : szU a 4 ≠ 0 := fun h => h0 (by unfold sizeS; rw [h]; rfl)
              unfold sizeS
              refine ⟨by omega, h2, ?_, ?_⟩ <;> (show _ ≤ _; simp only; omega)
            · cases h
set_option maxHeartbeats 8000000 in
set_option maxRecDepth 100000 in
/-- the words stand in memory, and nothing else has changed -/
abbrev Wd (w : World) (g cap : Nat) (ws : List (List UInt8)) (W : World) : Prop := Strs W (.slice (some ⟨g, 0, none⟩) ws.length cap) ws ∧ Kept (fun _ => False) w W
theorem Wd.to {w : World} {g cap : Nat} {ws : List (List UInt8)} {W W' : World} (h : Wd w g cap ws W) (hk : Kept (fun _ => False) W W') : Wd w g cap ws W' := ⟨Sl.kept hk h.1 fun k hk h => h, h.2.trans hk (fun _ _ h => h)⟩
set_option maxHeartbeats 8000000 in
set_option maxRecDepth 100000 in
/-- less than three words, or an empty first one -/
theorem assign_short (ws : List (List UInt8)) (s0 : List UInt8) (hs0 : ws[0]? = some s0) (g cap : Nat) (w : World) (h : Strs w (.slice (some ⟨g, 0, none⟩) ws.length cap) ws) (hc : ws.length < 3 ∨ 3 ≤ ws.length ∧ s0 = []) :
    Calls Tryz.prog 174 #[.slice (some ⟨g, 0, none⟩) ws.length cap] w fun e w' => SlO w none e w' := by
  have c0 := Strs.cell h (i := 0) (x := s0) hs0
  have hlt := Sl.lt h g rfl
  have hpos : 0 < ws.length := by cases ws with
    | nil => cases hs0
    | cons => simp
  clear h
  generalize ws.length = n at *
  rcases hc with hc | ⟨hc, rfl⟩
  · have hd : decide ((n : Int) < 3) = true := decide_eq_true (by omega)
    go_enter Tryz.func174, Tryz.ntmps174
    go_wp2_with fail
    refine bodyPost_ret (v := .tuple #[.slice none 0 0, .bool false]) (by simp [results, Tryz.results174, go_sem]) rfl ?_
    exact ⟨⟨_, rfl, fun l h => by (cases h), fun k hk => own_none hk⟩, Kept.refl _ w⟩
  · have hd : decide ((n : Int) < 3) = false := decide_eq_false (by omega)
    go_enter Tryz.func174, Tryz.ntmps174
    go_wp2_with fail
    refine bodyPost_ret (v := .tuple #[.slice none 0 0, .bool false]) (by simp [results, Tryz.results174, go_sem]) rfl ?_
    exact ⟨⟨_, rfl, fun l h => by (cases h), fun k hk => own_none hk⟩, Kept.refl _ w⟩
set_option maxHeartbeats 8000000 in
set_option maxRecDepth 100000 in
/-- the first word is no register -/
theorem assign_bad (ws : List (List UInt8)) (s0 : List UInt8) (hs0 : ws[0]? = some s0) (g cap : Nat) (w : World) (h : Strs w (.slice (some ⟨g, 0, none⟩) ws.length cap) ws) (hl : s0.length ≤ 1000000) (h3 : 3 ≤ ws.length) (hne : (s0 == []) = false) (hc : regS s0 (ch s0 0) = none ∨ (ch s0 0 == 114) = false ∧ (ch s0 0 == 119) = false) :
    Calls Tryz.prog 174 #[.slice (some ⟨g, 0, none⟩) ws.length cap] w fun e w' => SlO w none e w' := by
  have c0 := Strs.cell h (i := 0) (x := s0) hs0
  have hlt := Sl.lt h g rfl
  clear h
  have hpos : 0 < ws.length := by omega
  have hsp : 0 < s0.length := by cases s0 with
    | nil => cases hne
    | cons => simp
  have hem : s0.isEmpty = false := by cases s0 with
    | nil => cases hne
    | cons => rfl
  have hix0 : ∀ W, (Instr.index 9 (.string ⟨s0.toArray⟩) (.int .i64 0)).run Tryz.prog W = .ok (.int .u8 (ch s0 0)) W := fun W => ch_index (i := 0) (by omega) W
  generalize ws.length = n at *
  have hd : decide ((n : Int) < 3) = false := decide_eq_false (by omega)
  have HA := Lib.hid (fun W => register_any s0 (ch s0 0) W hl)
  generalize regS s0 (ch s0 0) = ra at *
  generalize ch s0 0 = l0 at *
  cases ra with
  | none =>
    clear hc
    go_enter Tryz.func174, Tryz.ntmps174
    go_wp2_with fail
    refine (HA.out _).mono ?_
    rintro e w7 ⟨⟨y, rfl, hy⟩, rfl⟩
    clear hy
    go_wp2_with fail
    refine bodyPost_ret (v := .tuple #[.slice none 0 0, .bool false]) (by simp [results, Tryz.results174, go_sem]) rfl ?_
    exact ⟨⟨_, rfl, fun l h => by (cases h), fun k hk => own_none hk⟩, Kept.refl _ w⟩
  | some d =>
    rcases hc with hc | ⟨q1, q2⟩
    · cases hc
    have q1n : (l0 != 114) = true := by simp only [bne, q1]; rfl
    have q2n : (l0 != 119) = true := by simp only [bne, q2]; rfl
    have q1m : (!(l0 == 114)) = true := by rw [q1]; rfl
    have q2m : (!(l0 == 119)) = true := by rw [q2]; rfl
    go_enter Tryz.func174, Tryz.ntmps174
    go_wp2_with fail
    refine (HA.out _).mono ?_
    rintro e w7 ⟨⟨y, rfl, hy⟩, rfl⟩
    clear hy
    go_wp2_with fail
    refine bodyPost_ret (v := .tuple #[.slice none 0 0, .bool false]) (by simp [results, Tryz.results174, go_sem]) rfl ?_
    exact ⟨⟨_, rfl, fun l h => by (cases h), fun k hk => own_none hk⟩, Kept.refl _ w⟩
set_option maxHeartbeats 8000000 in
set_option maxRecDepth 100000 in
theorem special_narrow (v d : Value) (w : World) : Calls Tryz.prog 226 #[v, d, .bool false] w fun e w' => SlO w none e w' := by
  go_enter Tryz.func226, Tryz.ntmps226
  go_wp2_with fail
  refine bodyPost_ret (v := .tuple #[.slice none 0 0, .bool false]) (by simp [results, Tryz.results226, go_sem]) rfl ?_
  exact ⟨⟨_, rfl, fun l h => by (cases h), fun k hk => own_none hk⟩, Kept.refl _ w⟩
set_option maxHeartbeats 8000000 in
set_option maxRecDepth 100000 in
theorem assign6w (s0 s1 s2 s3 s4 s5 : List UInt8) (r : List (List UInt8)) (g cap d : Nat) (w : World) (h : Strs w (.slice (some ⟨g, 0, none⟩) (r.length + 6) cap) (s0 :: s1 :: s2 :: s3 :: s4 :: s5 :: r)) (hl : s0.length ≤ 1000000) (hl2 : s2.length ≤ 1000000) (hne : (s0 == []) = false) (hlet : ch s0 0 = 114) (hreg : regS s0 114 = some d) :
    Calls Tryz.prog 174 #[.slice (some ⟨g, 0, none⟩) (r.length + 6) cap] w fun e w' => SlO w (none) e w' := by
  have c0 := Strs.cell h (i := 0) (x := s0) rfl
  have c1 := Strs.cell h (i := 1) (x := s1) rfl
  have c2 := Strs.cell h (i := 2) (x := s2) rfl
  have hlt := Sl.lt h g rfl
  have hsp : 0 < s0.length := by cases s0 with
    | nil => cases hne
    | cons => simp
  have hem : s0.isEmpty = false := by cases s0 with
    | nil => cases hne
    | cons => rfl
  have hix0 : ∀ W, (Instr.index 9 (.string ⟨s0.toArray⟩) (.int .i64 0)).run Tryz.prog W = .ok (.int .u8 114) W := fun W => by rw [← hlet]; exact ch_index (i := 0) (by omega) W
  have HA := Lib.hid (fun W => register_any s0 114 W hl)
  rw [hreg] at HA
  have HH := Lib.hid h
  clear h
  have hd : decide ((((r.length + 6 : Nat) : Int)) < 3) = false := decide_eq_false (by omega)
  have hd4 : (((r.length + 6 : Nat) : Int) == 4) = false := beq_eq_false_iff_ne.2 (by omega)
  have hd5 : (((r.length + 6 : Nat) : Int) == 5) = false := beq_eq_false_iff_ne.2 (by omega)
  have hd3 : (((r.length + 6 : Nat) : Int) == 3) = false := beq_eq_false_iff_ne.2 (by omega)
  have hd3n : (!(((r.length + 6 : Nat) : Int) == 3)) = true := by rw [hd3]; rfl
  have hd3m : (((r.length + 6 : Nat) : Int) != 3) = true := by simp only [bne, hd3]; rfl
  have hpos : 6 ≤ r.length + 6 := by omega
  generalize r.length + 6 = n at *
  cases q : (s1 == [61])
  all_goals
    go_enter Tryz.func174, Tryz.ntmps174
    go_wp2_with fail
    refine (HA.out _).mono ?_
    rintro e w7 ⟨⟨y, rfl, hy⟩, rfl⟩
    obtain rfl := hy d rfl
    clear hy HA
    go_wp2_with fail
    refine bodyPost_ret (v := .tuple #[.slice none 0 0, .bool false]) (by simp [results, Tryz.results174, go_sem]) rfl ?_
    exact ⟨⟨_, rfl, fun l h => by (cases h), fun k hk => own_none hk⟩, Kept.refl _ w⟩
set_option maxHeartbeats 8000000 in
set_option maxRecDepth 100000 in
theorem assign4w (s0 s1 s2 s3 : List UInt8) (g cap d : Nat) (w : World) (h : Strs w (.slice (some ⟨g, 0, none⟩) 4 cap) [s0, s1, s2, s3]) (hl : s0.length ≤ 1000000) (hl2 : s2.length ≤ 1000000) (hl3 : s3.length ≤ 1000000) (hne : (s0 == []) = false) (hlet : ch s0 0 = 114) (hreg : regS s0 114 = some d) :
    Calls Tryz.prog 174 #[.slice (some ⟨g, 0, none⟩) 4 cap] w fun e w' => SlO w (asg4 true d s0 s1 s2 s3) e w' := by
  have c0 := Strs.cell h (i := 0) (x := s0) rfl
  have c1 := Strs.cell h (i := 1) (x := s1) rfl
  have c2 := Strs.cell h (i := 2) (x := s2) rfl
  have hlt := Sl.lt h g rfl
  have hsp : 0 < s0.length := by cases s0 with
    | nil => cases hne
    | cons => simp
  have hem : s0.isEmpty = false := by cases s0 with
    | nil => cases hne
    | cons => rfl
  have hix0 : ∀ W, (Instr.index 9 (.string ⟨s0.toArray⟩) (.int .i64 0)).run Tryz.prog W = .ok (.int .u8 114) W := fun W => by rw [← hlet]; exact ch_index (i := 0) (by omega) W
  have HA := Lib.hid (fun W => register_any s0 114 W hl)
  rw [hreg] at HA
  have HH := Lib.hid h
  clear h
  obtain ⟨R, hR⟩ : ∃ R, asg4 true d s0 s1 s2 s3 = R := ⟨_, rfl⟩
  rw [hR]
  unfold asg4 at hR
  cases q : (s1 == [61])
  case false =>
    have hR : none = R := by rwa [if_neg (by rw [q]; decide)] at hR
    subst hR
    go_enter Tryz.func174, Tryz.ntmps174
    go_wp2_with fail
    refine (HA.out _).mono ?_
    rintro e w7 ⟨⟨y, rfl, hy⟩, rfl⟩
    obtain rfl := hy d rfl
    clear hy HA
    go_wp2_with fail
    refine bodyPost_ret (v := .tuple #[.slice none 0 0, .bool false]) (by simp [results, Tryz.results174, go_sem]) rfl ?_
    exact ⟨⟨_, rfl, fun l h => by (cases h), fun k hk => own_none hk⟩, Kept.refl _ w⟩
  case true =>
    rw [if_pos q] at hR
    go_enter Tryz.func174, Tryz.ntmps174
    go_wp2_with fail
    refine (HA.out _).mono ?_
    rintro e w7 ⟨⟨y, rfl, hy⟩, rfl⟩
    obtain rfl := hy d rfl
    clear hy HA
    go_wp2_with fail
    refine (special_any s0 s1 s2 s3 g cap d w HH.out hl hl2 hl3).mono ?_
    have hR : specialS s0 s2 s3 d = R := hR
    rw [hR]
    rintro e w8 ⟨⟨v, rfl, hv, ho⟩, hk8⟩
    have HV := Lib.hid hv
    have HO := Lib.hid ho
    clear hv ho
    go_wp2_with fail
    refine bodyPost_ret (v := .tuple #[v, .bool R.isSome]) (by simp [results, Tryz.results174, go_sem]) rfl ?_
    exact ⟨⟨_, rfl, HV.out, HO.out⟩, hk8⟩
set_option maxHeartbeats 8000000 in
set_option maxRecDepth 100000 in
theorem assign5w (s0 s1 s2 s3 s4 : List UInt8) (g cap d : Nat) (w : World) (h : Strs w (.slice (some ⟨g, 0, none⟩) 5 cap) [s0, s1, s2, s3, s4]) (hl : s0.length ≤ 1000000) (hl2 : s2.length ≤ 1000000) (hl3 : s3.length ≤ 1000000) (hl4 : s4.length ≤ 1000000) (hne : (s0 == []) = false) (hlet : ch s0 0 = 114) (hreg : regS s0 114 = some d) :
    Calls Tryz.prog 174 #[.slice (some ⟨g, 0, none⟩) 5 cap] w fun e w' => SlO w (asg5 true d s1 s2 s3 s4) e w' := by
  have c0 := Strs.cell h (i := 0) (x := s0) rfl
  have c1 := Strs.cell h (i := 1) (x := s1) rfl
  have c2 := Strs.cell h (i := 2) (x := s2) rfl
  have hlt := Sl.lt h g rfl
  have hsp : 0 < s0.length := by cases s0 with
    | nil => cases hne
    | cons => simp
  have hem : s0.isEmpty = false := by cases s0 with
    | nil => cases hne
    | cons => rfl
  have hix0 : ∀ W, (Instr.index 9 (.string ⟨s0.toArray⟩) (.int .i64 0)).run Tryz.prog W = .ok (.int .u8 114) W := fun W => by rw [← hlet]; exact ch_index (i := 0) (by omega) W
  have HA := Lib.hid (fun W => register_any s0 114 W hl)
  rw [hreg] at HA
  have HH := Lib.hid h
  clear h
  obtain ⟨R, hR⟩ : ∃ R, asg5 true d s1 s2 s3 s4 = R := ⟨_, rfl⟩
  rw [hR]
  unfold asg5 at hR
  cases q : (s1 == [61])
  case false =>
    have hR : none = R := by rwa [if_neg (by rw [q]; decide)] at hR
    subst hR
    go_enter Tryz.func174, Tryz.ntmps174
    go_wp2_with fail
    refine (HA.out _).mono ?_
    rintro e w7 ⟨⟨y, rfl, hy⟩, rfl⟩
    obtain rfl := hy d rfl
    clear hy HA
    go_wp2_with fail
    refine bodyPost_ret (v := .tuple #[.slice none 0 0, .bool false]) (by simp [results, Tryz.results174, go_sem]) rfl ?_
    exact ⟨⟨_, rfl, fun l h => by (cases h), fun k hk => own_none hk⟩, Kept.refl _ w⟩
  case true =>
    rw [if_pos q] at hR
    have hR : plA d (placeS s2 s3 s4) = R := hR
    have HP := Lib.hid (fun W => place_any s2 s3 s4 W hl2 hl3 hl4)
    have HPO : Hid (∀ v, placeS s2 s3 s4 = some v → (v.1 = 96 ∨ v.1 = 104 ∨ v.1 = 112 ∨ v.1 = 120) ∧ v.2.1 ≤ 10 ∧ -32768 ≤ v.2.2 ∧ v.2.2 ≤ 32767) := Lib.hid (fun v hv => placeS_op hv)
    generalize placeS s2 s3 s4 = pp at *
    cases pp with
    | none =>
      have hR : none = R := hR
      subst hR
      go_enter Tryz.func174, Tryz.ntmps174
      go_wp2_with fail
      refine (HA.out _).mono ?_
      rintro e w7 ⟨⟨y, rfl, hy⟩, rfl⟩
      obtain rfl := hy d rfl
      clear hy HA
      go_wp2_with fail
      refine wp_region_mix [.w, .w, .l, .w, .w, .l, .w, .w, .l, .k, .w, .w, .w, .w, .w, .w, .w, .w, .w] (by kernel_rfl) (by kernel_rfl) (fun W => Wd w g cap [s0, s1, s2, s3, s4] W) ?_
      have hcd : Wd w g cap [s0, s1, s2, s3, s4] w.drew := Wd.to ⟨HH.out, Kept.refl _ w⟩ (Kept.refl _ w).drew
      repeat (refine mix_w1 ?_; go_big_quiet_step (fail); refine wpQuiet_nil ?_)
      refine mix_load1 hcd rfl 9 (.tmp 81) rfl naST ⟨g, 2, none⟩ (stV s2) rfl (fun w' hw' => Strs.cell hw'.1 (i := 2) rfl) ?_
      simp only [Act.put, List.setIfInBounds_toArray, List.set_cons_succ, List.set_cons_zero]
      repeat (refine mix_w1 ?_; go_big_quiet_step (fail); refine wpQuiet_nil ?_)
      refine mix_load1 hcd rfl 9 (.tmp 84) rfl naST ⟨g, 3, none⟩ (stV s3) rfl (fun w' hw' => Strs.cell hw'.1 (i := 3) rfl) ?_
      simp only [Act.put, List.setIfInBounds_toArray, List.set_cons_succ, List.set_cons_zero]
      repeat (refine mix_w1 ?_; go_big_quiet_step (fail); refine wpQuiet_nil ?_)
      refine mix_load1 hcd rfl 9 (.tmp 87) rfl naST ⟨g, 4, none⟩ (stV s4) rfl (fun w' hw' => Strs.cell hw'.1 (i := 4) rfl) ?_
      simp only [Act.put, List.setIfInBounds_toArray, List.set_cons_succ, List.set_cons_zero]
      refine mix_k hcd fun Q' hQ' => ?_
      go_wp2_with fail
      refine (HP.out _).mono ?_
      rintro e w8 ⟨⟨x, z, o, rfl, hx⟩, hk8⟩
      have hc8 := Wd.to hcd hk8
      go_wp2_with fail
      refine hQ' _ _ hc8 ?_
      clear hQ' Q' hcd hk8
      repeat (refine mix_w1 ?_; go_big_quiet_step (fail); refine wpQuiet_nil ?_)
      refine mix_done ?_
      clear hx
      have HC8 := Lib.hid hc8
      clear hc8
      go_wp2_with fail
      refine bodyPost_ret (v := .tuple #[.slice (some ⟨w8.heap.size, 0, none⟩) 1 1, .bool false]) (by simp [results, Tryz.results174, go_sem]) rfl ?_
      exact ⟨⟨_, rfl, fun l h => by (cases h), fun k hk => own_at HC8.out.2.size hk⟩, HC8.out.2.alloc _⟩
    | some v =>
      obtain ⟨op, rs, of⟩ := v
      have hR : some [(⟨op + 1, d, rs, of, 0⟩ : In)] = R := hR
      subst hR
      obtain ⟨hp1, hp2, hp3, hp4⟩ := HPO.out _ rfl
      have hp5 : 96 ≤ op ∧ op ≤ 120 := by omega
      clear hp1 HPO
      go_enter Tryz.func174, Tryz.ntmps174
      go_wp2_with fail
      refine (HA.out _).mono ?_
      rintro e w7 ⟨⟨y, rfl, hy⟩, rfl⟩
      obtain rfl := hy d rfl
      clear hy HA
      go_wp2_with fail
      refine wp_region_mix [.w, .w, .l, .w, .w, .l, .w, .w, .l, .k, .w, .w, .w, .w, .w, .w, .w, .w, .w] (by kernel_rfl) (by kernel_rfl) (fun W => Wd w g cap [s0, s1, s2, s3, s4] W) ?_
      have hcd : Wd w g cap [s0, s1, s2, s3, s4] w.drew := Wd.to ⟨HH.out, Kept.refl _ w⟩ (Kept.refl _ w).drew
      repeat (refine mix_w1 ?_; go_big_quiet_step (fail); refine wpQuiet_nil ?_)
      refine mix_load1 hcd rfl 9 (.tmp 81) rfl naST ⟨g, 2, none⟩ (stV s2) rfl (fun w' hw' => Strs.cell hw'.1 (i := 2) rfl) ?_
      simp only [Act.put, List.setIfInBounds_toArray, List.set_cons_succ, List.set_cons_zero]
      repeat (refine mix_w1 ?_; go_big_quiet_step (fail); refine wpQuiet_nil ?_)
      refine mix_load1 hcd rfl 9 (.tmp 84) rfl naST ⟨g, 3, none⟩ (stV s3) rfl (fun w' hw' => Strs.cell hw'.1 (i := 3) rfl) ?_
      simp only [Act.put, List.setIfInBounds_toArray, List.set_cons_succ, List.set_cons_zero]
      repeat (refine mix_w1 ?_; go_big_quiet_step (fail); refine wpQuiet_nil ?_)
      refine mix_load1 hcd rfl 9 (.tmp 87) rfl naST ⟨g, 4, none⟩ (stV s4) rfl (fun w' hw' => Strs.cell hw'.1 (i := 4) rfl) ?_
      simp only [Act.put, List.setIfInBounds_toArray, List.set_cons_succ, List.set_cons_zero]
      refine mix_k hcd fun Q' hQ' => ?_
      go_wp2_with fail
      refine (HP.out _).mono ?_
      rintro e w8 ⟨⟨x, z, o, rfl, hx⟩, hk8⟩
      have hc8 := Wd.to hcd hk8
      go_wp2_with fail
      refine hQ' _ _ hc8 ?_
      clear hQ' Q' hcd hk8
      repeat (refine mix_w1 ?_; go_big_quiet_step (fail); refine wpQuiet_nil ?_)
      refine mix_done ?_
      obtain ⟨e1, e2, e3⟩ := hx _ rfl
      clear hx
      have e1 : x = op := e1
      have e2 : z = (rs : Int) := e2
      have e3 : o = of := e3
      subst e1 e2 e3
      have HC8 := Lib.hid hc8
      clear hc8
      go_wp2_with fail
      refine bodyPost_ret (v := .tuple #[.slice (some ⟨w8.heap.size, 0, none⟩) 1 1, .bool true]) (by simp [results, Tryz.results174, go_sem]) rfl ?_
      refine ⟨⟨_, rfl, fun l h => ?_, fun k hk => own_at HC8.out.2.size hk⟩, HC8.out.2.alloc _⟩
      cases h
      exact inS_one _ ⟨x + 1, d, rs, o, 0⟩ rfl
set_option maxHeartbeats 8000000 in
set_option maxRecDepth 100000 in
theorem assign3w (s0 s1 s2 : List UInt8) (g cap d : Nat) (w : World) (h : Strs w (.slice (some ⟨g, 0, none⟩) 3 cap) [s0, s1, s2]) (hl : s0.length ≤ 1000000) (hl2 : s2.length ≤ 1000000) (hne : (s0 == []) = false) (hlet : ch s0 0 = 114) (hreg : regS s0 114 = some d) :
    Calls Tryz.prog 174 #[.slice (some ⟨g, 0, none⟩) 3 cap] w fun e w' => SlO w (asg3 7 114 d s0 s1 s2) e w' := by
  have c0 := Strs.cell h (i := 0) (x := s0) rfl
  have c1 := Strs.cell h (i := 1) (x := s1) rfl
  have c2 := Strs.cell h (i := 2) (x := s2) rfl
  have hlt := Sl.lt h g rfl
  have hsp : 0 < s0.length := by cases s0 with
    | nil => cases hne
    | cons => simp
  have hem : s0.isEmpty = false := by cases s0 with
    | nil => cases hne
    | cons => rfl
  have hix0 : ∀ W, (Instr.index 9 (.string ⟨s0.toArray⟩) (.int .i64 0)).run Tryz.prog W = .ok (.int .u8 114) W := fun W => by rw [← hlet]; exact ch_index (i := 0) (by omega) W
  have HA := Lib.hid (fun W => register_any s0 114 W hl)
  rw [hreg] at HA
  have HH := Lib.hid h
  clear h
  have hadd : ∀ W, (Op.stringOp .add ⟨#[45]⟩ ⟨s0.toArray⟩).run Tryz.prog W = .ok (stV (45 :: s0)) W := fun W => run_string_add_lists (P := Tryz.prog) (w := W) [45] s0 (by first | omega | simp) (by first | omega | (simp; omega))
  obtain ⟨R, hR⟩ : ∃ R, asg3 7 114 d s0 s1 s2 = R := ⟨_, rfl⟩
  rw [hR]
  unfold asg3 at hR
  cases q : (s1 == [61])
  case true =>
    rw [if_pos q] at hR
    cases q3 : (s2 == 45 :: s0)
    case true =>
      rw [if_pos q3] at hR
      subst hR
      go_enter Tryz.func174, Tryz.ntmps174
      go_wp2_with fail
      refine (HA.out _).mono ?_
      rintro e w7 ⟨⟨y, rfl, hy⟩, rfl⟩
      obtain rfl := hy d rfl
      clear hy HA
      go_wp2_with fail
      refine wp_region_mix0 [.w, .w, .l, .w, .w, .w, .w, .l, .w, .w, .l, .w, .w, .w] (by kernel_rfl) (by kernel_rfl) ?_
      repeat (first
        | (refine mix_w1 ?_; go_big_quiet_step (fail); refine wpQuiet_nil ?_)
        | (refine mix_loadG rfl (by simp [Region.wanted, yielded]) 9 (.tmp 111) rfl naST ⟨g, 2, none⟩ (stV s2) rfl (fun w' hw' => by rw [hw']; exact c2) ?_; simp only [Act.put, List.setIfInBounds_toArray, List.set_cons_succ, List.set_cons_zero])
        | (refine mix_loadG rfl (by simp [Region.wanted, yielded]) 9 (.tmp 114) rfl naST ⟨g, 0, none⟩ (stV s0) rfl (fun w' hw' => by rw [hw']; exact c0) ?_; simp only [Act.put, List.setIfInBounds_toArray, List.set_cons_succ, List.set_cons_zero])
        | (refine mix_l1 rfl ?_; go_big_quiet_step (fail); refine wpQuiet_nil ?_))
      refine mix_done ?_
      go_wp2_with fail
      refine bodyPost_ret (v := .tuple #[.slice (some ⟨w.heap.size, 0, none⟩) 1 1, .bool true]) (by simp [results, Tryz.results174, go_sem]) rfl ?_
      refine ⟨⟨_, rfl, fun l h => ?_, fun k hk => own_at (Nat.le_refl _) hk⟩, (Kept.refl _ w).drew.alloc _⟩
      cases h
      exact inS_one _ ⟨128 + 7, d, 0, 0, 0⟩ rfl
    case false =>
      rw [if_neg (by rw [q3]; decide)] at hR
      go_enter Tryz.func174, Tryz.ntmps174
      go_wp2_with fail
      refine (HA.out _).mono ?_
      rintro e w7 ⟨⟨y, rfl, hy⟩, rfl⟩
      obtain rfl := hy d rfl
      clear hy HA
      go_wp2_with fail
      refine wp_region_mix0 [.w, .w, .l, .w, .w, .w, .w, .l, .w, .w, .l, .w, .w, .w] (by kernel_rfl) (by kernel_rfl) ?_
      repeat (first
        | (refine mix_w1 ?_; go_big_quiet_step (fail); refine wpQuiet_nil ?_)
        | (refine mix_loadG rfl (by simp [Region.wanted, yielded]) 9 (.tmp 111) rfl naST ⟨g, 2, none⟩ (stV s2) rfl (fun w' hw' => by rw [hw']; exact c2) ?_; simp only [Act.put, List.setIfInBounds_toArray, List.set_cons_succ, List.set_cons_zero])
        | (refine mix_loadG rfl (by simp [Region.wanted, yielded]) 9 (.tmp 114) rfl naST ⟨g, 0, none⟩ (stV s0) rfl (fun w' hw' => by rw [hw']; exact c0) ?_; simp only [Act.put, List.setIfInBounds_toArray, List.set_cons_succ, List.set_cons_zero])
        | (refine mix_l1 rfl ?_; go_big_quiet_step (fail); refine wpQuiet_nil ?_))
      refine mix_done ?_
      go_wp2_with fail
      clear q3
      have HR := Lib.hid hR
      have hl12 := Lib.hid hl2
      clear hR hix0 hsp hem c0 c1 c2 hlt hadd q
      go_loopw [13] (fun iv wr => ∃ i : Nat, iv = .int .i64 i ∧ i ≤ 13 ∧ Wd w g cap [s0, s1, s2] wr ∧ asgF 7 114 d s2 (sgU aluS s1 i (13 - i)) = R) (fun iv _ => 13 - (intOf iv).toNat)
      case atStart => exact ⟨0, rfl, by omega, Wd.to ⟨HH.out, Kept.refl _ w⟩ (Kept.refl _ w).drew, HR.out⟩
      case round =>
        obtain ⟨i, rfl, hi, hw, hr⟩ := hrel
        clear HH HR
        have HW := Lib.hid hw
        have HS := Lib.hid hr
        clear hw hr
        by_cases hi14 : i = 13
        · subst hi14
          have hR : none = R := HS.out
          subst hR
          go_wp2_with fail
          refine bodyPost_ret (v := .tuple #[.slice none 0 0, .bool false]) (by simp [results, Tryz.results174, go_sem]) rfl ?_
          exact ⟨⟨_, rfl, fun l h => by (cases h), fun k hk => own_none hk⟩, HW.out.2⟩
        have hi12 : i ≤ 12 := by omega
        have hi13 : i ≤ 13 := by omega
        have hd13 : decide ((i : Int) ≤ 12) = true := decide_eq_true (by omega)
        clear hi14
        have HN := Lib.hid (fun W => aluSign_any i hi13 W)
        have HS1 : Hid (asgF 7 114 d s2 (if (aluS i == s1) = false then sgU aluS s1 (i + 1) (13 - (i + 1)) else if (s1 == []) = true then sgU aluS s1 (i + 1) (13 - (i + 1)) else some i) = R) := Lib.hid (by
          have h14 : 13 - i = (13 - (i + 1)) + 1 := by omega
          have := HS.out
          rw [h14] at this
          exact this)
        clear HS
        cases q : (aluS i == s1)
        case false =>
          have hnx : Hid (asgF 7 114 d s2 (sgU aluS s1 (i + 1) (13 - (i + 1))) = R) := Lib.hid (by have := HS1.out; rwa [if_pos q] at this)
          have HQ := Lib.hid q
          have hqn : (!(aluS i == s1)) = true := by rw [q]; rfl
          clear HS1
          go_wp2_with fail
          refine wp_region_mix [.w, .k, .w, .w, .l, .w, .w, .w, .w, .l, .w, .w] (by kernel_rfl) (by kernel_rfl) (fun W => Wd w g cap [s0, s1, s2] W) ?_
          have hcd := Wd.to HW.out (Kept.refl _ wr).drew
          repeat (refine mix_w1 ?_; go_big_quiet_step (fail); refine wpQuiet_nil ?_)
          refine mix_k hcd fun Q' hQ' => ?_
          go_wp2_with fail
          refine (HN.out _).mono ?_
          rintro e w6 ⟨rfl, hk6⟩
          have hc6 := Wd.to hcd hk6
          go_wp2_with fail
          refine hQ' _ _ hc6 ?_
          clear hQ' Q' hcd hk6
          repeat (refine mix_w1 ?_; go_big_quiet_step (fail); refine wpQuiet_nil ?_)
          refine mix_load1 hc6 rfl 9 (.tmp 131) rfl naST ⟨g, 1, none⟩ (stV s1) rfl (fun w' hw' => Strs.cell hw'.1 (i := 1) rfl) ?_
          simp only [Act.put, List.setIfInBounds_toArray, List.set_cons_succ, List.set_cons_zero]
          repeat (first
            | (refine mix_w1 ?_; go_big_quiet_step (fail); refine wpQuiet_nil ?_)
            | (refine mix_l1 hc6 ?_; go_big_quiet_step (fail); refine wpQuiet_nil ?_))
          refine mix_done ?_
          have HC6 := Lib.hid hc6
          clear hc6
          go_wp2_with fail
          go_roundw
          case rel => exact ⟨i + 1, by simp, by omega, HC6.out, hnx.out⟩
          case measure => (simp [intOf]; omega)
        case true =>
        have hqn : (!(aluS i == s1)) = false := by rw [q]; rfl
        have HS2 : Hid (asgF 7 114 d s2 (if (s1 == []) = true then sgU aluS s1 (i + 1) (13 - (i + 1)) else some i) = R) := Lib.hid (by have := HS1.out; rwa [if_neg (by rw [q]; decide)] at this)
        clear HS1
        cases q2 : (s1 == [])
        all_goals
          have HQ := Lib.hid q2
          go_wp2_with fail
          refine wp_region_mix [.w, .k, .w, .w, .l, .w, .w, .w, .w, .l, .w, .w] (by kernel_rfl) (by kernel_rfl) (fun W => Wd w g cap [s0, s1, s2] W) ?_
          have hcd := Wd.to HW.out (Kept.refl _ wr).drew
          repeat (refine mix_w1 ?_; go_big_quiet_step (fail); refine wpQuiet_nil ?_)
          refine mix_k hcd fun Q' hQ' => ?_
          go_wp2_with fail
          refine (HN.out _).mono ?_
          rintro e w6 ⟨rfl, hk6⟩
          have hc6 := Wd.to hcd hk6
          go_wp2_with fail
          refine hQ' _ _ hc6 ?_
          clear hQ' Q' hcd hk6
          repeat (refine mix_w1 ?_; go_big_quiet_step (fail); refine wpQuiet_nil ?_)
          refine mix_load1 hc6 rfl 9 (.tmp 131) rfl naST ⟨g, 1, none⟩ (stV s1) rfl (fun w' hw' => Strs.cell hw'.1 (i := 1) rfl) ?_
          simp only [Act.put, List.setIfInBounds_toArray, List.set_cons_succ, List.set_cons_zero]
          repeat (refine mix_w1 ?_; go_big_quiet_step (fail); refine wpQuiet_nil ?_)
          refine mix_loadG hc6 (by simp [Region.wanted, yielded, hqn]) 9 (.tmp 136) rfl naST ⟨g, 1, none⟩ (stV s1) rfl (fun w' hw' => Strs.cell hw'.1 (i := 1) rfl) ?_
          simp only [Act.put, List.setIfInBounds_toArray, List.set_cons_succ, List.set_cons_zero]
          repeat (refine mix_w1 ?_; go_big_quiet_step (fail); refine wpQuiet_nil ?_)
          refine mix_done ?_
          have HC6 := Lib.hid hc6
          clear hc6
        rotate_left
        · have hnx : Hid (asgF 7 114 d s2 (sgU aluS s1 (i + 1) (13 - (i + 1))) = R) := Lib.hid (by have := HS2.out; rwa [if_pos HQ.out] at this)
          go_wp2_with fail
          go_roundw
          case rel => exact ⟨i + 1, by simp, by omega, HC6.out, hnx.out⟩
          case measure => (simp [intOf]; omega)
        have hR : orR (16 * (i : Int) + 7) d 0 (regS s2 114) (immS s2) = R := by have := HS2.out; rwa [if_neg (by rw [HQ.out]; decide)] at this
        clear HS2 HN
        have cc2 := Strs.cell HC6.out.1 (i := 2) (x := s2) rfl
        have hgs := Sl.lt HC6.out.1 g rfl
        have HB := Lib.hid (fun W => register_any s2 114 W hl12.out)
        have HI := Lib.hid (fun W => imm_any s2 W hl12.out)
        generalize regS s2 114 = rb at *
        generalize immS s2 = vi at *
        have HR := Lib.hid hR
        clear hR HQ q q2 hqn
        go_wp2_with fail
        refine (HB.out _).mono ?_
        rintro e w8 ⟨⟨z, rfl, hz⟩, rfl⟩
        cases rb with
        | some b =>
          obtain rfl := hz b rfl
          clear hz HB
          have hR : some [(⟨16 * (i : Int) + 7 + 8, d, b, 0, 0⟩ : In)] = R := HR.out
          subst hR
          go_wp2_with fail
          refine bodyPost_ret (v := .tuple #[.slice (some ⟨w6.heap.size + 1, 0, none⟩) 1 1, .bool true]) (by simp [results, Tryz.results174, go_sem]) rfl ?_
          refine ⟨⟨_, rfl, fun l h => ?_, fun k hk => own_one HC6.out.2.size hk⟩, (HC6.out.2.alloc _).alloc _⟩
          cases h
          exact inS_one _ ⟨16 * (i : Int) + 7 + 8, d, b, 0, 0⟩ (by simp)
        | none =>
          clear hz HB
          go_wp2_with fail
          refine (HI.out _).mono ?_
          rintro e w9 ⟨⟨v, rfl, hv⟩, rfl⟩
          cases vi with
          | none =>
            clear hv
            have hR : none = R := HR.out
            subst hR
            go_wp2_with fail
            refine bodyPost_ret (v := .tuple #[.slice (some ⟨w6.heap.size + 1, 0, none⟩) 1 1, .bool false]) (by simp [results, Tryz.results174, go_sem]) rfl ?_
            exact ⟨⟨_, rfl, fun l h => by (cases h), fun k hk => own_one HC6.out.2.size hk⟩, (HC6.out.2.alloc _).alloc _⟩
          | some v' =>
            obtain rfl := hv v' rfl
            clear hv
            have hR : some [(⟨16 * (i : Int) + 7, d, 0, 0, v⟩ : In)] = R := HR.out
            subst hR
            go_wp2_with fail
            refine bodyPost_ret (v := .tuple #[.slice (some ⟨w6.heap.size + 1, 0, none⟩) 1 1, .bool true]) (by simp [results, Tryz.results174, go_sem]) rfl ?_
            refine ⟨⟨_, rfl, fun l h => ?_, fun k hk => own_one HC6.out.2.size hk⟩, (HC6.out.2.alloc _).alloc _⟩
            cases h
            exact inS_one _ ⟨16 * (i : Int) + 7, d, 0, 0, v⟩ (by simp)
  case false =>
    rw [if_neg (by rw [q]; decide)] at hR
    go_enter Tryz.func174, Tryz.ntmps174
    go_wp2_with fail
    refine (HA.out _).mono ?_
    rintro e w7 ⟨⟨y, rfl, hy⟩, rfl⟩
    obtain rfl := hy d rfl
    clear hy HA
    go_wp2_with fail
    refine wp_region_mix0 [.w, .w, .l, .w, .w, .w, .w, .l, .w, .w, .l, .w, .w, .w] (by kernel_rfl) (by kernel_rfl) ?_
    repeat (first
      | (refine mix_w1 ?_; go_big_quiet_step (fail); refine wpQuiet_nil ?_)
      | (refine mix_loadG rfl (by simp [Region.wanted, yielded]) 9 (.tmp 111) rfl naST ⟨g, 2, none⟩ (stV s2) rfl (fun w' hw' => by rw [hw']; exact c2) ?_; simp only [Act.put, List.setIfInBounds_toArray, List.set_cons_succ, List.set_cons_zero])
      | (refine mix_loadG rfl (by simp [Region.wanted, yielded]) 9 (.tmp 114) rfl naST ⟨g, 0, none⟩ (stV s0) rfl (fun w' hw' => by rw [hw']; exact c0) ?_; simp only [Act.put, List.setIfInBounds_toArray, List.set_cons_succ, List.set_cons_zero])
      | (refine mix_l1 rfl ?_; go_big_quiet_step (fail); refine wpQuiet_nil ?_))
    refine mix_done ?_
    go_wp2_with fail
    have HR := Lib.hid hR
    have hl12 := Lib.hid hl2
    clear hR hix0 hsp hem c0 c1 c2 hlt hadd q
    go_loopw [13] (fun iv wr => ∃ i : Nat, iv = .int .i64 i ∧ i ≤ 13 ∧ Wd w g cap [s0, s1, s2] wr ∧ asgF 7 114 d s2 (sgU aluS s1 i (13 - i)) = R) (fun iv _ => 13 - (intOf iv).toNat)
    case atStart => exact ⟨0, rfl, by omega, Wd.to ⟨HH.out, Kept.refl _ w⟩ (Kept.refl _ w).drew, HR.out⟩
    case round =>
      obtain ⟨i, rfl, hi, hw, hr⟩ := hrel
      clear HH HR
      have HW := Lib.hid hw
      have HS := Lib.hid hr
      clear hw hr
      by_cases hi14 : i = 13
      · subst hi14
        have hR : none = R := HS.out
        subst hR
        go_wp2_with fail
        refine bodyPost_ret (v := .tuple #[.slice none 0 0, .bool false]) (by simp [results, Tryz.results174, go_sem]) rfl ?_
        exact ⟨⟨_, rfl, fun l h => by (cases h), fun k hk => own_none hk⟩, HW.out.2⟩
      have hi12 : i ≤ 12 := by omega
      have hi13 : i ≤ 13 := by omega
      have hd13 : decide ((i : Int) ≤ 12) = true := decide_eq_true (by omega)
      clear hi14
      have HN := Lib.hid (fun W => aluSign_any i hi13 W)
      have HS1 : Hid (asgF 7 114 d s2 (if (aluS i == s1) = false then sgU aluS s1 (i + 1) (13 - (i + 1)) else if (s1 == []) = true then sgU aluS s1 (i + 1) (13 - (i + 1)) else some i) = R) := Lib.hid (by
        have h14 : 13 - i = (13 - (i + 1)) + 1 := by omega
        have := HS.out
        rw [h14] at this
        exact this)
      clear HS
      cases q : (aluS i == s1)
      case false =>
        have hnx : Hid (asgF 7 114 d s2 (sgU aluS s1 (i + 1) (13 - (i + 1))) = R) := Lib.hid (by have := HS1.out; rwa [if_pos q] at this)
        have HQ := Lib.hid q
        have hqn : (!(aluS i == s1)) = true := by rw [q]; rfl
        clear HS1
        go_wp2_with fail
        refine wp_region_mix [.w, .k, .w, .w, .l, .w, .w, .w, .w, .l, .w, .w] (by kernel_rfl) (by kernel_rfl) (fun W => Wd w g cap [s0, s1, s2] W) ?_
        have hcd := Wd.to HW.out (Kept.refl _ wr).drew
        repeat (refine mix_w1 ?_; go_big_quiet_step (fail); refine wpQuiet_nil ?_)
        refine mix_k hcd fun Q' hQ' => ?_
        go_wp2_with fail
        refine (HN.out _).mono ?_
        rintro e w6 ⟨rfl, hk6⟩
        have hc6 := Wd.to hcd hk6
        go_wp2_with fail
        refine hQ' _ _ hc6 ?_
        clear hQ' Q' hcd hk6
        repeat (refine mix_w1 ?_; go_big_quiet_step (fail); refine wpQuiet_nil ?_)
        refine mix_load1 hc6 rfl 9 (.tmp 131) rfl naST ⟨g, 1, none⟩ (stV s1) rfl (fun w' hw' => Strs.cell hw'.1 (i := 1) rfl) ?_
        simp only [Act.put, List.setIfInBounds_toArray, List.set_cons_succ, List.set_cons_zero]
        repeat (first
          | (refine mix_w1 ?_; go_big_quiet_step (fail); refine wpQuiet_nil ?_)
          | (refine mix_l1 hc6 ?_; go_big_quiet_step (fail); refine wpQuiet_nil ?_))
        refine mix_done ?_
        have HC6 := Lib.hid hc6
        clear hc6
        go_wp2_with fail
        go_roundw
        case rel => exact ⟨i + 1, by simp, by omega, HC6.out, hnx.out⟩
        case measure => (simp [intOf]; omega)
      case true =>
      have hqn : (!(aluS i == s1)) = false := by rw [q]; rfl
      have HS2 : Hid (asgF 7 114 d s2 (if (s1 == []) = true then sgU aluS s1 (i + 1) (13 - (i + 1)) else some i) = R) := Lib.hid (by have := HS1.out; rwa [if_neg (by rw [q]; decide)] at this)
      clear HS1
      cases q2 : (s1 == [])
      all_goals
        have HQ := Lib.hid q2
        go_wp2_with fail
        refine wp_region_mix [.w, .k, .w, .w, .l, .w, .w, .w, .w, .l, .w, .w] (by kernel_rfl) (by kernel_rfl) (fun W => Wd w g cap [s0, s1, s2] W) ?_
        have hcd := Wd.to HW.out (Kept.refl _ wr).drew
        repeat (refine mix_w1 ?_; go_big_quiet_step (fail); refine wpQuiet_nil ?_)
        refine mix_k hcd fun Q' hQ' => ?_
        go_wp2_with fail
        refine (HN.out _).mono ?_
        rintro e w6 ⟨rfl, hk6⟩
        have hc6 := Wd.to hcd hk6
        go_wp2_with fail
        refine hQ' _ _ hc6 ?_
        clear hQ' Q' hcd hk6
        repeat (refine mix_w1 ?_; go_big_quiet_step (fail); refine wpQuiet_nil ?_)
        refine mix_load1 hc6 rfl 9 (.tmp 131) rfl naST ⟨g, 1, none⟩ (stV s1) rfl (fun w' hw' => Strs.cell hw'.1 (i := 1) rfl) ?_
        simp only [Act.put, List.setIfInBounds_toArray, List.set_cons_succ, List.set_cons_zero]
        repeat (refine mix_w1 ?_; go_big_quiet_step (fail); refine wpQuiet_nil ?_)
        refine mix_loadG hc6 (by simp [Region.wanted, yielded, hqn]) 9 (.tmp 136) rfl naST ⟨g, 1, none⟩ (stV s1) rfl (fun w' hw' => Strs.cell hw'.1 (i := 1) rfl) ?_
        simp only [Act.put, List.setIfInBounds_toArray, List.set_cons_succ, List.set_cons_zero]
        repeat (refine mix_w1 ?_; go_big_quiet_step (fail); refine wpQuiet_nil ?_)
        refine mix_done ?_
        have HC6 := Lib.hid hc6
        clear hc6
      rotate_left
      · have hnx : Hid (asgF 7 114 d s2 (sgU aluS s1 (i + 1) (13 - (i + 1))) = R) := Lib.hid (by have := HS2.out; rwa [if_pos HQ.out] at this)
        go_wp2_with fail
        go_roundw
        case rel => exact ⟨i + 1, by simp, by omega, HC6.out, hnx.out⟩
        case measure => (simp [intOf]; omega)
      have hR : orR (16 * (i : Int) + 7) d 0 (regS s2 114) (immS s2) = R := by have := HS2.out; rwa [if_neg (by rw [HQ.out]; decide)] at this
      clear HS2 HN
      have cc2 := Strs.cell HC6.out.1 (i := 2) (x := s2) rfl
      have hgs := Sl.lt HC6.out.1 g rfl
      have HB := Lib.hid (fun W => register_any s2 114 W hl12.out)
      have HI := Lib.hid (fun W => imm_any s2 W hl12.out)
      generalize regS s2 114 = rb at *
      generalize immS s2 = vi at *
      have HR := Lib.hid hR
      clear hR HQ q q2 hqn
      go_wp2_with fail
      refine (HB.out _).mono ?_
      rintro e w8 ⟨⟨z, rfl, hz⟩, rfl⟩
      cases rb with
      | some b =>
        obtain rfl := hz b rfl
        clear hz HB
        have hR : some [(⟨16 * (i : Int) + 7 + 8, d, b, 0, 0⟩ : In)] = R := HR.out
        subst hR
        go_wp2_with fail
        refine bodyPost_ret (v := .tuple #[.slice (some ⟨w6.heap.size + 1, 0, none⟩) 1 1, .bool true]) (by simp [results, Tryz.results174, go_sem]) rfl ?_
        refine ⟨⟨_, rfl, fun l h => ?_, fun k hk => own_one HC6.out.2.size hk⟩, (HC6.out.2.alloc _).alloc _⟩
        cases h
        exact inS_one _ ⟨16 * (i : Int) + 7 + 8, d, b, 0, 0⟩ (by simp)
      | none =>
        clear hz HB
        go_wp2_with fail
        refine (HI.out _).mono ?_
        rintro e w9 ⟨⟨v, rfl, hv⟩, rfl⟩
        cases vi with
        | none =>
          clear hv
          have hR : none = R := HR.out
          subst hR
          go_wp2_with fail
          refine bodyPost_ret (v := .tuple #[.slice (some ⟨w6.heap.size + 1, 0, none⟩) 1 1, .bool false]) (by simp [results, Tryz.results174, go_sem]) rfl ?_
          exact ⟨⟨_, rfl, fun l h => by (cases h), fun k hk => own_one HC6.out.2.size hk⟩, (HC6.out.2.alloc _).alloc _⟩
        | some v' =>
          obtain rfl := hv v' rfl
          clear hv
          have hR : some [(⟨16 * (i : Int) + 7, d, 0, 0, v⟩ : In)] = R := HR.out
          subst hR
          go_wp2_with fail
          refine bodyPost_ret (v := .tuple #[.slice (some ⟨w6.heap.size + 1, 0, none⟩) 1 1, .bool true]) (by simp [results, Tryz.results174, go_sem]) rfl ?_
          refine ⟨⟨_, rfl, fun l h => ?_, fun k hk => own_one HC6.out.2.size hk⟩, (HC6.out.2.alloc _).alloc _⟩
          cases h
          exact inS_one _ ⟨16 * (i : Int) + 7, d, 0, 0, v⟩ (by simp)
set_option maxHeartbeats 8000000 in
set_option maxRecDepth 100000 in
theorem assign6n (s0 s1 s2 s3 s4 s5 : List UInt8) (r : List (List UInt8)) (g cap d : Nat) (w : World) (h : Strs w (.slice (some ⟨g, 0, none⟩) (r.length + 6) cap) (s0 :: s1 :: s2 :: s3 :: s4 :: s5 :: r)) (hl : s0.length ≤ 1000000) (hl2 : s2.length ≤ 1000000) (hne : (s0 == []) = false) (hlet : ch s0 0 = 119) (hreg : regS s0 119 = some d) :
    Calls Tryz.prog 174 #[.slice (some ⟨g, 0, none⟩) (r.length + 6) cap] w fun e w' => SlO w (none) e w' := by
  have c0 := Strs.cell h (i := 0) (x := s0) rfl
  have c1 := Strs.cell h (i := 1) (x := s1) rfl
  have c2 := Strs.cell h (i := 2) (x := s2) rfl
  have hlt := Sl.lt h g rfl
  have hsp : 0 < s0.length := by cases s0 with
    | nil => cases hne
    | cons => simp
  have hem : s0.isEmpty = false := by cases s0 with
    | nil => cases hne
    | cons => rfl
  have hix0 : ∀ W, (Instr.index 9 (.string ⟨s0.toArray⟩) (.int .i64 0)).run Tryz.prog W = .ok (.int .u8 119) W := fun W => by rw [← hlet]; exact ch_index (i := 0) (by omega) W
  have HA := Lib.hid (fun W => register_any s0 119 W hl)
  rw [hreg] at HA
  have HH := Lib.hid h
  clear h
  have hd : decide ((((r.length + 6 : Nat) : Int)) < 3) = false := decide_eq_false (by omega)
  have hd4 : (((r.length + 6 : Nat) : Int) == 4) = false := beq_eq_false_iff_ne.2 (by omega)
  have hd5 : (((r.length + 6 : Nat) : Int) == 5) = false := beq_eq_false_iff_ne.2 (by omega)
  have hd3 : (((r.length + 6 : Nat) : Int) == 3) = false := beq_eq_false_iff_ne.2 (by omega)
  have hd3n : (!(((r.length + 6 : Nat) : Int) == 3)) = true := by rw [hd3]; rfl
  have hd3m : (((r.length + 6 : Nat) : Int) != 3) = true := by simp only [bne, hd3]; rfl
  have hpos : 6 ≤ r.length + 6 := by omega
  generalize r.length + 6 = n at *
  cases q : (s1 == [61])
  all_goals
    go_enter Tryz.func174, Tryz.ntmps174
    go_wp2_with fail
    refine (HA.out _).mono ?_
    rintro e w7 ⟨⟨y, rfl, hy⟩, rfl⟩
    obtain rfl := hy d rfl
    clear hy HA
    go_wp2_with fail
    refine bodyPost_ret (v := .tuple #[.slice none 0 0, .bool false]) (by simp [results, Tryz.results174, go_sem]) rfl ?_
    exact ⟨⟨_, rfl, fun l h => by (cases h), fun k hk => own_none hk⟩, Kept.refl _ w⟩
set_option maxHeartbeats 8000000 in
set_option maxRecDepth 100000 in
theorem assign4n (s0 s1 s2 s3 : List UInt8) (g cap d : Nat) (w : World) (h : Strs w (.slice (some ⟨g, 0, none⟩) 4 cap) [s0, s1, s2, s3]) (hl : s0.length ≤ 1000000) (hl2 : s2.length ≤ 1000000) (hl3 : s3.length ≤ 1000000) (hne : (s0 == []) = false) (hlet : ch s0 0 = 119) (hreg : regS s0 119 = some d) :
    Calls Tryz.prog 174 #[.slice (some ⟨g, 0, none⟩) 4 cap] w fun e w' => SlO w (asg4 false d s0 s1 s2 s3) e w' := by
  have c0 := Strs.cell h (i := 0) (x := s0) rfl
  have c1 := Strs.cell h (i := 1) (x := s1) rfl
  have c2 := Strs.cell h (i := 2) (x := s2) rfl
  have hlt := Sl.lt h g rfl
  have hsp : 0 < s0.length := by cases s0 with
    | nil => cases hne
    | cons => simp
  have hem : s0.isEmpty = false := by cases s0 with
    | nil => cases hne
    | cons => rfl
  have hix0 : ∀ W, (Instr.index 9 (.string ⟨s0.toArray⟩) (.int .i64 0)).run Tryz.prog W = .ok (.int .u8 119) W := fun W => by rw [← hlet]; exact ch_index (i := 0) (by omega) W
  have HA := Lib.hid (fun W => register_any s0 119 W hl)
  rw [hreg] at HA
  have HH := Lib.hid h
  clear h
  obtain ⟨R, hR⟩ : ∃ R, asg4 false d s0 s1 s2 s3 = R := ⟨_, rfl⟩
  rw [hR]
  unfold asg4 at hR
  cases q : (s1 == [61])
  case false =>
    have hR : none = R := by rwa [if_neg (by rw [q]; decide)] at hR
    subst hR
    go_enter Tryz.func174, Tryz.ntmps174
    go_wp2_with fail
    refine (HA.out _).mono ?_
    rintro e w7 ⟨⟨y, rfl, hy⟩, rfl⟩
    obtain rfl := hy d rfl
    clear hy HA
    go_wp2_with fail
    refine bodyPost_ret (v := .tuple #[.slice none 0 0, .bool false]) (by simp [results, Tryz.results174, go_sem]) rfl ?_
    exact ⟨⟨_, rfl, fun l h => by (cases h), fun k hk => own_none hk⟩, Kept.refl _ w⟩
  case true =>
    rw [if_pos q] at hR
    go_enter Tryz.func174, Tryz.ntmps174
    go_wp2_with fail
    refine (HA.out _).mono ?_
    rintro e w7 ⟨⟨y, rfl, hy⟩, rfl⟩
    obtain rfl := hy d rfl
    clear hy HA
    have hR : none = R := hR
    subst hR
    go_wp2_with fail
    refine (special_narrow _ _ w).mono ?_
    rintro e w8 ⟨⟨v, rfl, hv, ho⟩, hk8⟩
    have HV := Lib.hid hv
    have HO := Lib.hid ho
    clear hv ho
    go_wp2_with fail
    refine bodyPost_ret (v := .tuple #[v, .bool false]) (by simp [results, Tryz.results174, go_sem]) rfl ?_
    exact ⟨⟨_, rfl, HV.out, HO.out⟩, hk8⟩
set_option maxHeartbeats 8000000 in
set_option maxRecDepth 100000 in
theorem assign5n (s0 s1 s2 s3 s4 : List UInt8) (g cap d : Nat) (w : World) (h : Strs w (.slice (some ⟨g, 0, none⟩) 5 cap) [s0, s1, s2, s3, s4]) (hl : s0.length ≤ 1000000) (hl2 : s2.length ≤ 1000000) (hl3 : s3.length ≤ 1000000) (hl4 : s4.length ≤ 1000000) (hne : (s0 == []) = false) (hlet : ch s0 0 = 119) (hreg : regS s0 119 = some d) :
    Calls Tryz.prog 174 #[.slice (some ⟨g, 0, none⟩) 5 cap] w fun e w' => SlO w (asg5 false d s1 s2 s3 s4) e w' := by
  have c0 := Strs.cell h (i := 0) (x := s0) rfl
  have c1 := Strs.cell h (i := 1) (x := s1) rfl
  have c2 := Strs.cell h (i := 2) (x := s2) rfl
  have hlt := Sl.lt h g rfl
  have hsp : 0 < s0.length := by cases s0 with
    | nil => cases hne
    | cons => simp
  have hem : s0.isEmpty = false := by cases s0 with
    | nil => cases hne
    | cons => rfl
  have hix0 : ∀ W, (Instr.index 9 (.string ⟨s0.toArray⟩) (.int .i64 0)).run Tryz.prog W = .ok (.int .u8 119) W := fun W => by rw [← hlet]; exact ch_index (i := 0) (by omega) W
  have HA := Lib.hid (fun W => register_any s0 119 W hl)
  rw [hreg] at HA
  have HH := Lib.hid h
  clear h
  obtain ⟨R, hR⟩ : ∃ R, asg5 false d s1 s2 s3 s4 = R := ⟨_, rfl⟩
  rw [hR]
  unfold asg5 at hR
  cases q : (s1 == [61])
  case false =>
    have hR : none = R := by rwa [if_neg (by rw [q]; decide)] at hR
    subst hR
    go_enter Tryz.func174, Tryz.ntmps174
    go_wp2_with fail
    refine (HA.out _).mono ?_
    rintro e w7 ⟨⟨y, rfl, hy⟩, rfl⟩
    obtain rfl := hy d rfl
    clear hy HA
    go_wp2_with fail
    refine bodyPost_ret (v := .tuple #[.slice none 0 0, .bool false]) (by simp [results, Tryz.results174, go_sem]) rfl ?_
    exact ⟨⟨_, rfl, fun l h => by (cases h), fun k hk => own_none hk⟩, Kept.refl _ w⟩
  case true =>
    rw [if_pos q] at hR
    have hR : none = R := hR
    subst hR
    go_enter Tryz.func174, Tryz.ntmps174
    go_wp2_with fail
    refine (HA.out _).mono ?_
    rintro e w7 ⟨⟨y, rfl, hy⟩, rfl⟩
    obtain rfl := hy d rfl
    clear hy HA
    go_wp2_with fail
    refine bodyPost_ret (v := .tuple #[.slice none 0 0, .bool false]) (by simp [results, Tryz.results174, go_sem]) rfl ?_
    exact ⟨⟨_, rfl, fun l h => by (cases h), fun k hk => own_none hk⟩, Kept.refl _ w⟩
set_option maxHeartbeats 8000000 in
set_option maxRecDepth 100000 in
theorem assign3n (s0 s1 s2 : List UInt8) (g cap d : Nat) (w : World) (h : Strs w (.slice (some ⟨g, 0, none⟩) 3 cap) [s0, s1, s2]) (hl : s0.length ≤ 1000000) (hl2 : s2.length ≤ 1000000) (hne : (s0 == []) = false) (hlet : ch s0 0 = 119) (hreg : regS s0 119 = some d) :
    Calls Tryz.prog 174 #[.slice (some ⟨g, 0, none⟩) 3 cap] w fun e w' => SlO w (asg3 4 119 d s0 s1 s2) e w' := by
  have c0 := Strs.cell h (i := 0) (x := s0) rfl
  have c1 := Strs.cell h (i := 1) (x := s1) rfl
  have c2 := Strs.cell h (i := 2) (x := s2) rfl
  have hlt := Sl.lt h g rfl
  have hsp : 0 < s0.length := by cases s0 with
    | nil => cases hne
    | cons => simp
  have hem : s0.isEmpty = false := by cases s0 with
    | nil => cases hne
    | cons => rfl
  have hix0 : ∀ W, (Instr.index 9 (.string ⟨s0.toArray⟩) (.int .i64 0)).run Tryz.prog W = .ok (.int .u8 119) W := fun W => by rw [← hlet]; exact ch_index (i := 0) (by omega) W
  have HA := Lib.hid (fun W => register_any s0 119 W hl)
  rw [hreg] at HA
  have HH := Lib.hid h
  clear h
  have hadd : ∀ W, (Op.stringOp .add ⟨#[45]⟩ ⟨s0.toArray⟩).run Tryz.prog W = .ok (stV (45 :: s0)) W := fun W => run_string_add_lists (P := Tryz.prog) (w := W) [45] s0 (by first | omega | simp) (by first | omega | (simp; omega))
  obtain ⟨R, hR⟩ : ∃ R, asg3 4 119 d s0 s1 s2 = R := ⟨_, rfl⟩
  rw [hR]
  unfold asg3 at hR
  cases q : (s1 == [61])
  case true =>
    rw [if_pos q] at hR
    cases q3 : (s2 == 45 :: s0)
    case true =>
      rw [if_pos q3] at hR
      subst hR
      go_enter Tryz.func174, Tryz.ntmps174
      go_wp2_with fail
      refine (HA.out _).mono ?_
      rintro e w7 ⟨⟨y, rfl, hy⟩, rfl⟩
      obtain rfl := hy d rfl
      clear hy HA
      go_wp2_with fail
      refine wp_region_mix0 [.w, .w, .l, .w, .w, .w, .w, .l, .w, .w, .l, .w, .w, .w] (by kernel_rfl) (by kernel_rfl) ?_
      repeat (first
        | (refine mix_w1 ?_; go_big_quiet_step (fail); refine wpQuiet_nil ?_)
        | (refine mix_loadG rfl (by simp [Region.wanted, yielded]) 9 (.tmp 111) rfl naST ⟨g, 2, none⟩ (stV s2) rfl (fun w' hw' => by rw [hw']; exact c2) ?_; simp only [Act.put, List.setIfInBounds_toArray, List.set_cons_succ, List.set_cons_zero])
        | (refine mix_loadG rfl (by simp [Region.wanted, yielded]) 9 (.tmp 114) rfl naST ⟨g, 0, none⟩ (stV s0) rfl (fun w' hw' => by rw [hw']; exact c0) ?_; simp only [Act.put, List.setIfInBounds_toArray, List.set_cons_succ, List.set_cons_zero])
        | (refine mix_l1 rfl ?_; go_big_quiet_step (fail); refine wpQuiet_nil ?_))
      refine mix_done ?_
      go_wp2_with fail
      refine bodyPost_ret (v := .tuple #[.slice (some ⟨w.heap.size, 0, none⟩) 1 1, .bool true]) (by simp [results, Tryz.results174, go_sem]) rfl ?_
      refine ⟨⟨_, rfl, fun l h => ?_, fun k hk => own_at (Nat.le_refl _) hk⟩, (Kept.refl _ w).drew.alloc _⟩
      cases h
      exact inS_one _ ⟨128 + 4, d, 0, 0, 0⟩ rfl
    case false =>
      rw [if_neg (by rw [q3]; decide)] at hR
      go_enter Tryz.func174, Tryz.ntmps174
      go_wp2_with fail
      refine (HA.out _).mono ?_
      rintro e w7 ⟨⟨y, rfl, hy⟩, rfl⟩
      obtain rfl := hy d rfl
      clear hy HA
      go_wp2_with fail
      refine wp_region_mix0 [.w, .w, .l, .w, .w, .w, .w, .l, .w, .w, .l, .w, .w, .w] (by kernel_rfl) (by kernel_rfl) ?_
      repeat (first
        | (refine mix_w1 ?_; go_big_quiet_step (fail); refine wpQuiet_nil ?_)
        | (refine mix_loadG rfl (by simp [Region.wanted, yielded]) 9 (.tmp 111) rfl naST ⟨g, 2, none⟩ (stV s2) rfl (fun w' hw' => by rw [hw']; exact c2) ?_; simp only [Act.put, List.setIfInBounds_toArray, List.set_cons_succ, List.set_cons_zero])
        | (refine mix_loadG rfl (by simp [Region.wanted, yielded]) 9 (.tmp 114) rfl naST ⟨g, 0, none⟩ (stV s0) rfl (fun w' hw' => by rw [hw']; exact c0) ?_; simp only [Act.put, List.setIfInBounds_toArray, List.set_cons_succ, List.set_cons_zero])
        | (refine mix_l1 rfl ?_; go_big_quiet_step (fail); refine wpQuiet_nil ?_))
      refine mix_done ?_
      go_wp2_with fail
      clear q3
      have HR := Lib.hid hR
      have hl12 := Lib.hid hl2
      clear hR hix0 hsp hem c0 c1 c2 hlt hadd q
      go_loopw [13] (fun iv wr => ∃ i : Nat, iv = .int .i64 i ∧ i ≤ 13 ∧ Wd w g cap [s0, s1, s2] wr ∧ asgF 4 119 d s2 (sgU aluS s1 i (13 - i)) = R) (fun iv _ => 13 - (intOf iv).toNat)
      case atStart => exact ⟨0, rfl, by omega, Wd.to ⟨HH.out, Kept.refl _ w⟩ (Kept.refl _ w).drew, HR.out⟩
      case round =>
        obtain ⟨i, rfl, hi, hw, hr⟩ := hrel
        clear HH HR
        have HW := Lib.hid hw
        have HS := Lib.hid hr
        clear hw hr
        by_cases hi14 : i = 13
        · subst hi14
          have hR : none = R := HS.out
          subst hR
          go_wp2_with fail
          refine bodyPost_ret (v := .tuple #[.slice none 0 0, .bool false]) (by simp [results, Tryz.results174, go_sem]) rfl ?_
          exact ⟨⟨_, rfl, fun l h => by (cases h), fun k hk => own_none hk⟩, HW.out.2⟩
        have hi12 : i ≤ 12 := by omega
        have hi13 : i ≤ 13 := by omega
        have hd13 : decide ((i : Int) ≤ 12) = true := decide_eq_true (by omega)
        clear hi14
        have HN := Lib.hid (fun W => aluSign_any i hi13 W)
        have HS1 : Hid (asgF 4 119 d s2 (if (aluS i == s1) = false then sgU aluS s1 (i + 1) (13 - (i + 1)) else if (s1 == []) = true then sgU aluS s1 (i + 1) (13 - (i + 1)) else some i) = R) := Lib.hid (by
          have h14 : 13 - i = (13 - (i + 1)) + 1 := by omega
          have := HS.out
          rw [h14] at this
          exact this)
        clear HS
        cases q : (aluS i == s1)
        case false =>
          have hnx : Hid (asgF 4 119 d s2 (sgU aluS s1 (i + 1) (13 - (i + 1))) = R) := Lib.hid (by have := HS1.out; rwa [if_pos q] at this)
          have HQ := Lib.hid q
          have hqn : (!(aluS i == s1)) = true := by rw [q]; rfl
          clear HS1
          go_wp2_with fail
          refine wp_region_mix [.w, .k, .w, .w, .l, .w, .w, .w, .w, .l, .w, .w] (by kernel_rfl) (by kernel_rfl) (fun W => Wd w g cap [s0, s1, s2] W) ?_
          have hcd := Wd.to HW.out (Kept.refl _ wr).drew
          repeat (refine mix_w1 ?_; go_big_quiet_step (fail); refine wpQuiet_nil ?_)
          refine mix_k hcd fun Q' hQ' => ?_
          go_wp2_with fail
          refine (HN.out _).mono ?_
          rintro e w6 ⟨rfl, hk6⟩
          have hc6 := Wd.to hcd hk6
          go_wp2_with fail
          refine hQ' _ _ hc6 ?_
          clear hQ' Q' hcd hk6
          repeat (refine mix_w1 ?_; go_big_quiet_step (fail); refine wpQuiet_nil ?_)
          refine mix_load1 hc6 rfl 9 (.tmp 131) rfl naST ⟨g, 1, none⟩ (stV s1) rfl (fun w' hw' => Strs.cell hw'.1 (i := 1) rfl) ?_
          simp only [Act.put, List.setIfInBounds_toArray, List.set_cons_succ, List.set_cons_zero]
          repeat (first
            | (refine mix_w1 ?_; go_big_quiet_step (fail); refine wpQuiet_nil ?_)
            | (refine mix_l1 hc6 ?_; go_big_quiet_step (fail); refine wpQuiet_nil ?_))
          refine mix_done ?_
          have HC6 := Lib.hid hc6
          clear hc6
          go_wp2_with fail
          go_roundw
          case rel => exact ⟨i + 1, by simp, by omega, HC6.out, hnx.out⟩
          case measure => (simp [intOf]; omega)
        case true =>
        have hqn : (!(aluS i == s1)) = false := by rw [q]; rfl
        have HS2 : Hid (asgF 4 119 d s2 (if (s1 == []) = true then sgU aluS s1 (i + 1) (13 - (i + 1)) else some i) = R) := Lib.hid (by have := HS1.out; rwa [if_neg (by rw [q]; decide)] at this)
        clear HS1
        cases q2 : (s1 == [])
        all_goals
          have HQ := Lib.hid q2
          go_wp2_with fail
          refine wp_region_mix [.w, .k, .w, .w, .l, .w, .w, .w, .w, .l, .w, .w] (by kernel_rfl) (by kernel_rfl) (fun W => Wd w g cap [s0, s1, s2] W) ?_
          have hcd := Wd.to HW.out (Kept.refl _ wr).drew
          repeat (refine mix_w1 ?_; go_big_quiet_step (fail); refine wpQuiet_nil ?_)
          refine mix_k hcd fun Q' hQ' => ?_
          go_wp2_with fail
          refine (HN.out _).mono ?_
          rintro e w6 ⟨rfl, hk6⟩
          have hc6 := Wd.to hcd hk6
          go_wp2_with fail
          refine hQ' _ _ hc6 ?_
          clear hQ' Q' hcd hk6
          repeat (refine mix_w1 ?_; go_big_quiet_step (fail); refine wpQuiet_nil ?_)
          refine mix_load1 hc6 rfl 9 (.tmp 131) rfl naST ⟨g, 1, none⟩ (stV s1) rfl (fun w' hw' => Strs.cell hw'.1 (i := 1) rfl) ?_
          simp only [Act.put, List.setIfInBounds_toArray, List.set_cons_succ, List.set_cons_zero]
          repeat (refine mix_w1 ?_; go_big_quiet_step (fail); refine wpQuiet_nil ?_)
          refine mix_loadG hc6 (by simp [Region.wanted, yielded, hqn]) 9 (.tmp 136) rfl naST ⟨g, 1, none⟩ (stV s1) rfl (fun w' hw' => Strs.cell hw'.1 (i := 1) rfl) ?_
          simp only [Act.put, List.setIfInBounds_toArray, List.set_cons_succ, List.set_cons_zero]
          repeat (refine mix_w1 ?_; go_big_quiet_step (fail); refine wpQuiet_nil ?_)
          refine mix_done ?_
          have HC6 := Lib.hid hc6
          clear hc6
        rotate_left
        · have hnx : Hid (asgF 4 119 d s2 (sgU aluS s1 (i + 1) (13 - (i + 1))) = R) := Lib.hid (by have := HS2.out; rwa [if_pos HQ.out] at this)
          go_wp2_with fail
          go_roundw
          case rel => exact ⟨i + 1, by simp, by omega, HC6.out, hnx.out⟩
          case measure => (simp [intOf]; omega)
        have hR : orR (16 * (i : Int) + 4) d 0 (regS s2 119) (immS s2) = R := by have := HS2.out; rwa [if_neg (by rw [HQ.out]; decide)] at this
        clear HS2 HN
        have cc2 := Strs.cell HC6.out.1 (i := 2) (x := s2) rfl
        have hgs := Sl.lt HC6.out.1 g rfl
        have HB := Lib.hid (fun W => register_any s2 119 W hl12.out)
        have HI := Lib.hid (fun W => imm_any s2 W hl12.out)
        generalize regS s2 119 = rb at *
        generalize immS s2 = vi at *
        have HR := Lib.hid hR
        clear hR HQ q q2 hqn
        go_wp2_with fail
        refine (HB.out _).mono ?_
        rintro e w8 ⟨⟨z, rfl, hz⟩, rfl⟩
        cases rb with
        | some b =>
          obtain rfl := hz b rfl
          clear hz HB
          have hR : some [(⟨16 * (i : Int) + 4 + 8, d, b, 0, 0⟩ : In)] = R := HR.out
          subst hR
          go_wp2_with fail
          refine bodyPost_ret (v := .tuple #[.slice (some ⟨w6.heap.size + 1, 0, none⟩) 1 1, .bool true]) (by simp [results, Tryz.results174, go_sem]) rfl ?_
          refine ⟨⟨_, rfl, fun l h => ?_, fun k hk => own_one HC6.out.2.size hk⟩, (HC6.out.2.alloc _).alloc _⟩
          cases h
          exact inS_one _ ⟨16 * (i : Int) + 4 + 8, d, b, 0, 0⟩ (by simp)
        | none =>
          clear hz HB
          go_wp2_with fail
          refine (HI.out _).mono ?_
          rintro e w9 ⟨⟨v, rfl, hv⟩, rfl⟩
          cases vi with
          | none =>
            clear hv
            have hR : none = R := HR.out
            subst hR
            go_wp2_with fail
            refine bodyPost_ret (v := .tuple #[.slice (some ⟨w6.heap.size + 1, 0, none⟩) 1 1, .bool false]) (by simp [results, Tryz.results174, go_sem]) rfl ?_
            exact ⟨⟨_, rfl, fun l h => by (cases h), fun k hk => own_one HC6.out.2.size hk⟩, (HC6.out.2.alloc _).alloc _⟩
          | some v' =>
            obtain rfl := hv v' rfl
            clear hv
            have hR : some [(⟨16 * (i : Int) + 4, d, 0, 0, v⟩ : In)] = R := HR.out
            subst hR
            go_wp2_with fail
            refine bodyPost_ret (v := .tuple #[.slice (some ⟨w6.heap.size + 1, 0, none⟩) 1 1, .bool true]) (by simp [results, Tryz.results174, go_sem]) rfl ?_
            refine ⟨⟨_, rfl, fun l h => ?_, fun k hk => own_one HC6.out.2.size hk⟩, (HC6.out.2.alloc _).alloc _⟩
            cases h
            exact inS_one _ ⟨16 * (i : Int) + 4, d, 0, 0, v⟩ (by simp)
  case false =>
    rw [if_neg (by rw [q]; decide)] at hR
    go_enter Tryz.func174, Tryz.ntmps174
    go_wp2_with fail
    refine (HA.out _).mono ?_
    rintro e w7 ⟨⟨y, rfl, hy⟩, rfl⟩
    obtain rfl := hy d rfl
    clear hy HA
    go_wp2_with fail
    refine wp_region_mix0 [.w, .w, .l, .w, .w, .w, .w, .l, .w, .w, .l, .w, .w, .w] (by kernel_rfl) (by kernel_rfl) ?_
    repeat (first
      | (refine mix_w1 ?_; go_big_quiet_step (fail); refine wpQuiet_nil ?_)
      | (refine mix_loadG rfl (by simp [Region.wanted, yielded]) 9 (.tmp 111) rfl naST ⟨g, 2, none⟩ (stV s2) rfl (fun w' hw' => by rw [hw']; exact c2) ?_; simp only [Act.put, List.setIfInBounds_toArray, List.set_cons_succ, List.set_cons_zero])
      | (refine mix_loadG rfl (by simp [Region.wanted, yielded]) 9 (.tmp 114) rfl naST ⟨g, 0, none⟩ (stV s0) rfl (fun w' hw' => by rw [hw']; exact c0) ?_; simp only [Act.put, List.setIfInBounds_toArray, List.set_cons_succ, List.set_cons_zero])
      | (refine mix_l1 rfl ?_; go_big_quiet_step (fail); refine wpQuiet_nil ?_))
    refine mix_done ?_
    go_wp2_with fail
    have HR := Lib.hid hR
    have hl12 := Lib.hid hl2
    clear hR hix0 hsp hem c0 c1 c2 hlt hadd q
    go_loopw [13] (fun iv wr => ∃ i : Nat, iv = .int .i64 i ∧ i ≤ 13 ∧ Wd w g cap [s0, s1, s2] wr ∧ asgF 4 119 d s2 (sgU aluS s1 i (13 - i)) = R) (fun iv _ => 13 - (intOf iv).toNat)
    case atStart => exact ⟨0, rfl, by omega, Wd.to ⟨HH.out, Kept.refl _ w⟩ (Kept.refl _ w).drew, HR.out⟩
    case round =>
      obtain ⟨i, rfl, hi, hw, hr⟩ := hrel
      clear HH HR
      have HW := Lib.hid hw
      have HS := Lib.hid hr
      clear hw hr
      by_cases hi14 : i = 13
      · subst hi14
        have hR : none = R := HS.out
        subst hR
        go_wp2_with fail
        refine bodyPost_ret (v := .tuple #[.slice none 0 0, .bool false]) (by simp [results, Tryz.results174, go_sem]) rfl ?_
        exact ⟨⟨_, rfl, fun l h => by (cases h), fun k hk => own_none hk⟩, HW.out.2⟩
      have hi12 : i ≤ 12 := by omega
      have hi13 : i ≤ 13 := by omega
      have hd13 : decide ((i : Int) ≤ 12) = true := decide_eq_true (by omega)
      clear hi14
      have HN := Lib.hid (fun W => aluSign_any i hi13 W)
      have HS1 : Hid (asgF 4 119 d s2 (if (aluS i == s1) = false then sgU aluS s1 (i + 1) (13 - (i + 1)) else if (s1 == []) = true then sgU aluS s1 (i + 1) (13 - (i + 1)) else some i) = R) := Lib.hid (by
        have h14 : 13 - i = (13 - (i + 1)) + 1 := by omega
        have := HS.out
        rw [h14] at this
        exact this)
      clear HS
      cases q : (aluS i == s1)
      case false =>
        have hnx : Hid (asgF 4 119 d s2 (sgU aluS s1 (i + 1) (13 - (i + 1))) = R) := Lib.hid (by have := HS1.out; rwa [if_pos q] at this)
        have HQ := Lib.hid q
        have hqn : (!(aluS i == s1)) = true := by rw [q]; rfl
        clear HS1
        go_wp2_with fail
        refine wp_region_mix [.w, .k, .w, .w, .l, .w, .w, .w, .w, .l, .w, .w] (by kernel_rfl) (by kernel_rfl) (fun W => Wd w g cap [s0, s1, s2] W) ?_
        have hcd := Wd.to HW.out (Kept.refl _ wr).drew
        repeat (refine mix_w1 ?_; go_big_quiet_step (fail); refine wpQuiet_nil ?_)
        refine mix_k hcd fun Q' hQ' => ?_
        go_wp2_with fail
        refine (HN.out _).mono ?_
        rintro e w6 ⟨rfl, hk6⟩
        have hc6 := Wd.to hcd hk6
        go_wp2_with fail
        refine hQ' _ _ hc6 ?_
        clear hQ' Q' hcd hk6
        repeat (refine mix_w1 ?_; go_big_quiet_step (fail); refine wpQuiet_nil ?_)
        refine mix_load1 hc6 rfl 9 (.tmp 131) rfl naST ⟨g, 1, none⟩ (stV s1) rfl (fun w' hw' => Strs.cell hw'.1 (i := 1) rfl) ?_
        simp only [Act.put, List.setIfInBounds_toArray, List.set_cons_succ, List.set_cons_zero]
        repeat (first
          | (refine mix_w1 ?_; go_big_quiet_step (fail); refine wpQuiet_nil ?_)
          | (refine mix_l1 hc6 ?_; go_big_quiet_step (fail); refine wpQuiet_nil ?_))
        refine mix_done ?_
        have HC6 := Lib.hid hc6
        clear hc6
        go_wp2_with fail
        go_roundw
        case rel => exact ⟨i + 1, by simp, by omega, HC6.out, hnx.out⟩
        case measure => (simp [intOf]; omega)
      case true =>
      have hqn : (!(aluS i == s1)) = false := by rw [q]; rfl
      have HS2 : Hid (asgF 4 119 d s2 (if (s1 == []) = true then sgU aluS s1 (i + 1) (13 - (i + 1)) else some i) = R) := Lib.hid (by have := HS1.out; rwa [if_neg (by rw [q]; decide)] at this)
      clear HS1
      cases q2 : (s1 == [])
      all_goals
        have HQ := Lib.hid q2
        go_wp2_with fail
        refine wp_region_mix [.w, .k, .w, .w, .l, .w, .w, .w, .w, .l, .w, .w] (by kernel_rfl) (by kernel_rfl) (fun W => Wd w g cap [s0, s1, s2] W) ?_
        have hcd := Wd.to HW.out (Kept.refl _ wr).drew
        repeat (refine mix_w1 ?_; go_big_quiet_step (fail); refine wpQuiet_nil ?_)
        refine mix_k hcd fun Q' hQ' => ?_
        go_wp2_with fail
        refine (HN.out _).mono ?_
        rintro e w6 ⟨rfl, hk6⟩
        have hc6 := Wd.to hcd hk6
        go_wp2_with fail
        refine hQ' _ _ hc6 ?_
        clear hQ' Q' hcd hk6
        repeat (refine mix_w1 ?_; go_big_quiet_step (fail); refine wpQuiet_nil ?_)
        refine mix_load1 hc6 rfl 9 (.tmp 131) rfl naST ⟨g, 1, none⟩ (stV s1) rfl (fun w' hw' => Strs.cell hw'.1 (i := 1) rfl) ?_
        simp only [Act.put, List.setIfInBounds_toArray, List.set_cons_succ, List.set_cons_zero]
        repeat (refine mix_w1 ?_; go_big_quiet_step (fail); refine wpQuiet_nil ?_)
        refine mix_loadG hc6 (by simp [Region.wanted, yielded, hqn]) 9 (.tmp 136) rfl naST ⟨g, 1, none⟩ (stV s1) rfl (fun w' hw' => Strs.cell hw'.1 (i := 1) rfl) ?_
        simp only [Act.put, List.setIfInBounds_toArray, List.set_cons_succ, List.set_cons_zero]
        repeat (refine mix_w1 ?_; go_big_quiet_step (fail); refine wpQuiet_nil ?_)
        refine mix_done ?_
        have HC6 := Lib.hid hc6
        clear hc6
      rotate_left
      · have hnx : Hid (asgF 4 119 d s2 (sgU aluS s1 (i + 1) (13 - (i + 1))) = R) := Lib.hid (by have := HS2.out; rwa [if_pos HQ.out] at this)
        go_wp2_with fail
        go_roundw
        case rel => exact ⟨i + 1, by simp, by omega, HC6.out, hnx.out⟩
        case measure => (simp [intOf]; omega)
      have hR : orR (16 * (i : Int) + 4) d 0 (regS s2 119) (immS s2) = R := by have := HS2.out; rwa [if_neg (by rw [HQ.out]; decide)] at this
      clear HS2 HN
      have cc2 := Strs.cell HC6.out.1 (i := 2) (x := s2) rfl
      have hgs := Sl.lt HC6.out.1 g rfl
      have HB := Lib.hid (fun W => register_any s2 119 W hl12.out)
      have HI := Lib.hid (fun W => imm_any s2 W hl12.out)
      generalize regS s2 119 = rb at *
      generalize immS s2 = vi at *
      have HR := Lib.hid hR
      clear hR HQ q q2 hqn
      go_wp2_with fail
      refine (HB.out _).mono ?_
      rintro e w8 ⟨⟨z, rfl, hz⟩, rfl⟩
      cases rb with
      | some b =>
        obtain rfl := hz b rfl
        clear hz HB
        have hR : some [(⟨16 * (i : Int) + 4 + 8, d, b, 0, 0⟩ : In)] = R := HR.out
        subst hR
        go_wp2_with fail
        refine bodyPost_ret (v := .tuple #[.slice (some ⟨w6.heap.size + 1, 0, none⟩) 1 1, .bool true]) (by simp [results, Tryz.results174, go_sem]) rfl ?_
        refine ⟨⟨_, rfl, fun l h => ?_, fun k hk => own_one HC6.out.2.size hk⟩, (HC6.out.2.alloc _).alloc _⟩
        cases h
        exact inS_one _ ⟨16 * (i : Int) + 4 + 8, d, b, 0, 0⟩ (by simp)
      | none =>
        clear hz HB
        go_wp2_with fail
        refine (HI.out _).mono ?_
        rintro e w9 ⟨⟨v, rfl, hv⟩, rfl⟩
        cases vi with
        | none =>
          clear hv
          have hR : none = R := HR.out
          subst hR
          go_wp2_with fail
          refine bodyPost_ret (v := .tuple #[.slice (some ⟨w6.heap.size + 1, 0, none⟩) 1 1, .bool false]) (by simp [results, Tryz.results174, go_sem]) rfl ?_
          exact ⟨⟨_, rfl, fun l h => by (cases h), fun k hk => own_one HC6.out.2.size hk⟩, (HC6.out.2.alloc _).alloc _⟩
        | some v' =>
          obtain rfl := hv v' rfl
          clear hv
          have hR : some [(⟨16 * (i : Int) + 4, d, 0, 0, v⟩ : In)] = R := HR.out
          subst hR
          go_wp2_with fail
          refine bodyPost_ret (v := .tuple #[.slice (some ⟨w6.heap.size + 1, 0, none⟩) 1 1, .bool true]) (by simp [results, Tryz.results174, go_sem]) rfl ?_
          refine ⟨⟨_, rfl, fun l h => ?_, fun k hk => own_one HC6.out.2.size hk⟩, (HC6.out.2.alloc _).alloc _⟩
          cases h
          exact inS_one _ ⟨16 * (i : Int) + 4, d, 0, 0, v⟩ (by simp)

end Go.Proofs.YtdchmelgaljpfaaGreat

set_option linter.unusedSimpArgs false
set_option linter.unusedVariables false
namespace Go.Proofs.YtdchmelgaljpfaaGreat
open Go.RowKit

set_option maxRecDepth 100000 in
theorem assign_any (ws : List (List UInt8)) (g cap : Nat) (w : World) (h : Strs w (.slice (some ⟨g, 0, none⟩) ws.length cap) ws) (hne : ws ≠ []) (hl : ∀ s ∈ ws, s.length ≤ 1000000) :
    Calls Tryz.prog 174 #[.slice (some ⟨g, 0, none⟩) ws.length cap] w fun e w' => SlO w (assignS ws) e w' := by
  match ws, hne, h, hl with
  | [s0], _, h, hl => exact assign_short [s0] s0 rfl g cap w h (.inl (by simp))
  | [s0, s1], _, h, hl => exact assign_short [s0, s1] s0 rfl g cap w h (.inl (by simp))
  | s0 :: s1 :: s2 :: rest, _, h, hl =>
    have hl0 := hl s0 (by simp)
    have hl2 := hl s2 (by simp)
    have h3 : 3 ≤ (s0 :: s1 :: s2 :: rest).length := by simp
    have hA : assignS (s0 :: s1 :: s2 :: rest) = if (s0 == []) = true then none else asgD (ch s0 0) (regS s0 (ch s0 0)) s0 s1 s2 rest := rfl
    rw [hA]
    cases he : (s0 == [])
    case true =>
      rw [if_pos rfl]
      exact assign_short (s0 :: s1 :: s2 :: rest) s0 rfl g cap w h (.inr ⟨h3, by simpa using he⟩)
    case false =>
    rw [if_neg Bool.false_ne_true]
    cases hr : regS s0 (ch s0 0) with
    | none => exact assign_bad (s0 :: s1 :: s2 :: rest) s0 rfl g cap w h hl0 h3 he (.inl hr)
    | some d =>
    unfold asgD
    cases q1 : (ch s0 0 == 114)
    case true =>
      simp only [if_true]
      have hlet : ch s0 0 = 114 := by simpa using q1
      rw [hlet] at hr
      match rest, h, hl with
      | [], h, hl => exact assign3w s0 s1 s2 g cap d w h hl0 hl2 he hlet hr
      | [s3], h, hl => exact assign4w s0 s1 s2 s3 g cap d w h hl0 hl2 (hl s3 (by simp)) he hlet hr
      | [s3, s4], h, hl => exact assign5w s0 s1 s2 s3 s4 g cap d w h hl0 hl2 (hl s3 (by simp)) (hl s4 (by simp)) he hlet hr
      | s3 :: s4 :: s5 :: r, h, hl => exact assign6w s0 s1 s2 s3 s4 s5 r g cap d w h hl0 hl2 he hlet hr
    case false =>
    cases q2 : (ch s0 0 == 119)
    case true =>
      simp only [if_true, if_neg Bool.false_ne_true]
      have hlet : ch s0 0 = 119 := by simpa using q2
      rw [hlet] at hr
      match rest, h, hl with
      | [], h, hl => exact assign3n s0 s1 s2 g cap d w h hl0 hl2 he hlet hr
      | [s3], h, hl => exact assign4n s0 s1 s2 s3 g cap d w h hl0 hl2 (hl s3 (by simp)) he hlet hr
      | [s3, s4], h, hl => exact assign5n s0 s1 s2 s3 s4 g cap d w h hl0 hl2 (hl s3 (by simp)) (hl s4 (by simp)) he hlet hr
      | s3 :: s4 :: s5 :: r, h, hl => exact assign6n s0 s1 s2 s3 s4 s5 r g cap d w h hl0 hl2 he hlet hr
    case false =>
      simp only [if_neg Bool.false_ne_true]
      exact assign_bad (s0 :: s1 :: s2 :: rest) s0 rfl g cap w h hl0 h3 he (.inr ⟨q1, q2⟩)

/-! ### one line -/
def gotoO (o : Option Int) : Option (List In) := match o with
  | none => none
  | some o => some [⟨5, 0, 0, o, 0⟩]
def callO (o v : Option Int) : Option (List In) := match o, v with
  | some o, _ => some [⟨133, 0, 1, 0, o⟩]
  | none, some v => some [⟨133, 0, 0, 0, v⟩]
  | none, none => none
def stO (p : Option (Int × Nat × Int)) (r : Option Nat) (v : Option Int) : Option (List In) := match p, r, v with
  | none, _, _ => none
  | some p, some r, _ => some [⟨p.1 + 3, p.2.1, r, p.2.2, 0⟩]
  | some p, none, some v => some [⟨p.1 + 2, p.2.1, 0, p.2.2, v⟩]
  | some _, none, none => none
def oneW : List (List UInt8) → Option (List In)
  | [s0, s1] => if (s0 == [103, 111, 116, 111]) = true then gotoO (offS s1 32767) else if (s0 == [99, 97, 108, 108]) = true then callO (offS s1 2147483647) (immS s1) else assignS [s0, s1]
  | [s0, s1, s2, s3, s4] => if (s3 == [61]) = true then stO (placeS s0 s1 s2) (regS s4 114) (immS s4) else assignS [s0, s1, s2, s3, s4]
  | [s0, s1, s2, s3, s4, s5] => if (s0 == [105, 102]) = true then (if (s4 == [103, 111, 116, 111]) = true then compareS s1 s2 s3 s5 else assignS [s0, s1, s2, s3, s4, s5]) else assignS [s0, s1, s2, s3, s4, s5]
  | ws => assignS ws
theorem oneW2 (s0 s1 : List UInt8) : oneW [s0, s1] = if (s0 == [103, 111, 116, 111]) = true then gotoO (offS s1 32767) else if (s0 == [99, 97, 108, 108]) = true then callO (offS s1 2147483647) (immS s1) else assignS [s0, s1] := rfl
theorem oneW5 (s0 s1 s2 s3 s4 : List UInt8) : oneW [s0, s1, s2, s3, s4] = if (s3 == [61]) = true then stO (placeS s0 s1 s2) (regS s4 114) (immS s4) else assignS [s0, s1, s2, s3, s4] := rfl
theorem oneW6 (s0 s1 s2 s3 s4 s5 : List UInt8) : oneW [s0, s1, s2, s3, s4, s5] = if (s0 == [105, 102]) = true then (if (s4 == [103, 111, 116, 111]) = true then compareS s1 s2 s3 s5 else assignS [s0, s1, s2, s3, s4, s5]) else assignS [s0, s1, s2, s3, s4, s5] := rfl
def oneS (s : List UInt8) : Option (List In) := if (s == [101, 120, 105, 116]) = true then some [⟨149, 0, 0, 0, 0⟩] else oneW (wordsS s)
theorem wordsG_small (cur l : List UInt8) : ∀ x ∈ wordsG cur l, x.length ≤ cur.length + l.length := by
  induction l generalizing cur with
  | nil => intro x hx; simp [wordsG] at hx; subst hx; simp
  | cons b r ih =>
    intro x hx
    unfold wordsG at hx
    split at hx
    · rcases List.mem_cons.1 hx with rfl | hx
      · simp
      · have := ih [] x hx
        simp at this ⊢
        omega
    · have := ih _ x hx
      simp at this ⊢
      omega
theorem offS_first {s : List UInt8} {m v : Int} (h : offS s m = some v) : 2 ≤ s.length ∧ (ch s 0 = 43 ∨ ch s 0 = 45) := by
  unfold offS at h
  split at h
  · cases h
  · split at h
    · rename_i h1
      exact ⟨by omega, .inl (by simpa using h1)⟩
    · split at h
      · rename_i h1
        exact ⟨by omega, .inr (by simpa using h1)⟩
      · cases h
theorem SlO.back {w w1 w2 : World} {R : Option (List In)} {e : Ending} (h : SlO w1 R e w2) (hk : Kept (fun _ => False) w w1) : SlO w R e w2 := by
  obtain ⟨⟨v, he, hv, ho⟩, h2⟩ := h
  exact ⟨⟨v, he, hv, fun k hkk => Nat.le_trans hk.size (ho k hkk)⟩, hk.trans h2 (fun _ _ h => h)⟩
set_option maxHeartbeats 8000000 in
set_option maxRecDepth 100000 in
theorem one_exit (s : List UInt8) (w : World) (hl : s.length ≤ 1000000) (hx : (s == [101, 120, 105, 116]) = true) :
    Calls Tryz.prog 143 #[stV s] w fun e w' => SlO w (some [⟨149, 0, 0, 0, 0⟩]) e w' := by
  go_enter Tryz.func143, Tryz.ntmps143
  go_wp2_with fail
  refine (words_any s w hl).mono ?_
  rintro e w1 ⟨ov, rfl, hs, hk1⟩
  clear hs
  go_wp2_with fail
  refine bodyPost_ret (v := .tuple #[.slice (some ⟨w1.heap.size, 0, none⟩) 1 1, .bool true]) (by simp [results, Tryz.results143, go_sem]) rfl ?_
  refine ⟨⟨_, rfl, fun l h => ?_, fun k hk => own_at hk1.size hk⟩, hk1.alloc _⟩
  cases h
  exact inS_one _ ⟨149, 0, 0, 0, 0⟩ rfl
set_option maxHeartbeats 8000000 in
set_option maxRecDepth 100000 in
theorem one2 (s s0 s1 : List UInt8) (w : World) (hl : s.length ≤ 1000000) (hx : (s == [101, 120, 105, 116]) = false) (hw : wordsS s = [s0, s1]) :
    Calls Tryz.prog 143 #[stV s] w fun e w' => SlO w (oneW [s0, s1]) e w' := by
  have hsm : ∀ x ∈ [s0, s1], x.length ≤ 1000000 := fun x hx => by
    rw [← hw] at hx
    have := wordsG_small [] s x hx
    simp at this
    omega
  have HLEN := Lib.hid hsm
  have hl0 := hsm s0 (by simp)
  have hl1 := hsm s1 (by simp)
  clear hsm
  by_cases hq : s0 = [103, 111, 116, 111]
  · subst hq
    have HO := Lib.hid (fun W => off_any s1 32767 W hl1 (by omega))
    have HOR : Hid (∀ v, offS s1 32767 = some v → -32768 ≤ v ∧ v ≤ 32767) := Lib.hid (fun v hv => by have := offS_range hv (by omega); omega)
    show Calls _ _ _ _ fun e w' => SlO w (gotoO (offS s1 32767)) e w'
    generalize offS s1 32767 = oo at *
    go_enter Tryz.func143, Tryz.ntmps143
    go_wp2_with fail
    refine (words_any s w hl).mono ?_
    rintro e w1 ⟨ov, rfl, hs, hk1⟩
    rw [hw] at hs
    obtain ⟨hov, hlen0⟩ | ⟨g, cap, rfl, hcap, hlt⟩ := Sl.shape hs
    · simp at hlen0
    have c0 := Strs.cell hs (i := 0) (x := [103, 111, 116, 111]) rfl
    have c1 := Strs.cell hs (i := 1) (x := s1) rfl
    have HK := Lib.hid hk1
    clear hk1 hcap
    have HS := Lib.hid hs
    clear hs
    go_wp2_with fail
    refine (HO.out _).mono ?_
    rintro e w2 ⟨⟨x, rfl, hx, hx1, hx2⟩, rfl⟩
    cases oo with
    | none =>
      clear hx
      go_wp2_with fail
      refine bodyPost_ret (v := .tuple #[.slice (some ⟨w1.heap.size, 0, none⟩) 1 1, .bool false]) (by simp [results, Tryz.results143, go_sem]) rfl ?_
      exact ⟨⟨_, rfl, fun l h => by (cases h), fun k hk => own_at HK.out.size hk⟩, HK.out.alloc _⟩
    | some o =>
      obtain rfl := hx o rfl
      have hxr := HOR.out x rfl
      clear hx
      go_wp2_with fail
      refine bodyPost_ret (v := .tuple #[.slice (some ⟨w1.heap.size, 0, none⟩) 1 1, .bool true]) (by simp [results, Tryz.results143, go_sem]) rfl ?_
      refine ⟨⟨_, rfl, fun l h => ?_, fun k hk => own_at HK.out.size hk⟩, HK.out.alloc _⟩
      cases h
      exact inS_one _ ⟨5, 0, 0, x, 0⟩ rfl
  by_cases hq : s0 = [99, 97, 108, 108]
  · subst hq
    have HO := Lib.hid (fun W => off_any s1 2147483647 W hl1 (by omega))
    have HOR : Hid (∀ v, offS s1 2147483647 = some v → -2147483648 ≤ v ∧ v ≤ 2147483647) := Lib.hid (fun v hv => by have := offS_range hv (by omega); omega)
    have HI := Lib.hid (fun W => imm_any s1 W hl1)
    show Calls _ _ _ _ fun e w' => SlO w (callO (offS s1 2147483647) (immS s1)) e w'
    cases hoo : offS s1 2147483647 with
    | none =>
      rw [hoo] at HO
      generalize immS s1 = vi at *
      go_enter Tryz.func143, Tryz.ntmps143
      go_wp2_with fail
      refine (words_any s w hl).mono ?_
      rintro e w1 ⟨ov, rfl, hs, hk1⟩
      rw [hw] at hs
      obtain ⟨hov, hlen0⟩ | ⟨g, cap, rfl, hcap, hlt⟩ := Sl.shape hs
      · simp at hlen0
      have c0 := Strs.cell hs (i := 0) (x := [99, 97, 108, 108]) rfl
      have c1 := Strs.cell hs (i := 1) (x := s1) rfl
      have HK := Lib.hid hk1
      clear hk1 hcap
      have HS := Lib.hid hs
      clear hs
      go_wp2_with fail
      refine (HO.out _).mono ?_
      rintro e w2 ⟨⟨x, rfl, hx, hx1, hx2⟩, rfl⟩
      clear hx
      go_wp2_with fail
      refine (HI.out _).mono ?_
      rintro e w3 ⟨⟨v, rfl, hv⟩, rfl⟩
      cases vi with
      | none =>
        clear hv
        go_wp2_with fail
        refine bodyPost_ret (v := .tuple #[.slice (some ⟨w1.heap.size, 0, none⟩) 1 1, .bool false]) (by simp [results, Tryz.results143, go_sem]) rfl ?_
        exact ⟨⟨_, rfl, fun l h => by (cases h), fun k hk => own_at HK.out.size hk⟩, HK.out.alloc _⟩
      | some v' =>
        obtain rfl := hv v' rfl
        clear hv
        go_wp2_with fail
        refine bodyPost_ret (v := .tuple #[.slice (some ⟨w1.heap.size, 0, none⟩) 1 1, .bool true]) (by simp [results, Tryz.results143, go_sem]) rfl ?_
        refine ⟨⟨_, rfl, fun l h => ?_, fun k hk => own_at HK.out.size hk⟩, HK.out.alloc _⟩
        cases h
        exact inS_one _ ⟨133, 0, 0, 0, v⟩ rfl
    | some o =>
      rw [hoo] at HO
      have hor := HOR.out o hoo
      have hof := offS_first hoo
      have hsp : 0 < s1.length := by omega
      have hix0 : ∀ W, (Instr.index 9 (.string ⟨s1.toArray⟩) (.int .i64 0)).run Tryz.prog W = .ok (.int .u8 (ch s1 0)) W := fun W => ch_index (i := 0) (by omega) W
      generalize ch s1 0 = c0 at *
      obtain ⟨hof0, hof⟩ := hof
      rcases hof with rfl | rfl
      all_goals
        go_enter Tryz.func143, Tryz.ntmps143
        go_wp2_with fail
        refine (words_any s w hl).mono ?_
        rintro e w1 ⟨ov, rfl, hs, hk1⟩
        rw [hw] at hs
        obtain ⟨hov, hlen0⟩ | ⟨g, cap, rfl, hcap, hlt⟩ := Sl.shape hs
        · simp at hlen0
        have c0 := Strs.cell hs (i := 0) (x := [99, 97, 108, 108]) rfl
        have c1 := Strs.cell hs (i := 1) (x := s1) rfl
        have HK := Lib.hid hk1
        clear hk1 hcap
        have HS := Lib.hid hs
        clear hs
        go_wp2_with fail
        refine (HO.out _).mono ?_
        rintro e w2 ⟨⟨x, rfl, hx, hx1, hx2⟩, rfl⟩
        obtain rfl := hx o rfl
        clear hx
        go_wp2_with fail
        refine bodyPost_ret (v := .tuple #[.slice (some ⟨w1.heap.size, 0, none⟩) 1 1, .bool true]) (by simp [results, Tryz.results143, go_sem]) rfl ?_
        refine ⟨⟨_, rfl, fun l h => ?_, fun k hk => own_at HK.out.size hk⟩, HK.out.alloc _⟩
        cases h
        exact inS_one _ ⟨133, 0, 1, 0, x⟩ rfl
  by_cases hq : s0 = [105, 102]
  · subst hq
    have hE : oneW [[105, 102], s1] = assignS [[105, 102], s1] := rfl
    rw [hE]
    obtain ⟨R, hR⟩ : ∃ R, assignS [[105, 102], s1] = R := ⟨_, rfl⟩
    rw [hR]
    go_enter Tryz.func143, Tryz.ntmps143
    go_wp2_with fail
    refine (words_any s w hl).mono ?_
    rintro e w1 ⟨ov, rfl, hs, hk1⟩
    rw [hw] at hs
    obtain ⟨hov, hlen0⟩ | ⟨g, cap, rfl, hcap, hlt⟩ := Sl.shape hs
    · simp at hlen0
    have c0 := Strs.cell hs (i := 0) (x := [105, 102]) rfl
    have c1 := Strs.cell hs (i := 1) (x := s1) rfl
    have HK := Lib.hid hk1
    clear hk1 hcap
    have HS := Lib.hid hs
    clear hs
    have HQ := assign_any [[105, 102], s1] g cap w1 HS.out (by simp) HLEN.out
    rw [hR] at HQ
    have HQ := Lib.hid HQ
    go_wp2_with fail
    refine HQ.out.mono ?_
    rintro e w8 hq
    have hq := SlO.back hq HK.out
    obtain ⟨⟨v, rfl, hv, ho⟩, hk8⟩ := hq
    have HV := Lib.hid hv
    have HO := Lib.hid ho
    clear hv ho
    go_wp2_with fail
    refine bodyPost_ret (v := .tuple #[v, .bool R.isSome]) (by simp [results, Tryz.results143, go_sem]) rfl ?_
    exact ⟨⟨_, rfl, HV.out, HO.out⟩, hk8⟩
  have q1 : (s0 == [103, 111, 116, 111]) = false := beq_eq_false_iff_ne.2 ‹¬ s0 = [103, 111, 116, 111]›
  have q2 : (s0 == [99, 97, 108, 108]) = false := beq_eq_false_iff_ne.2 ‹¬ s0 = [99, 97, 108, 108]›
  have q3 : (s0 == [105, 102]) = false := beq_eq_false_iff_ne.2 ‹¬ s0 = [105, 102]›
  have hE : oneW [s0, s1] = assignS [s0, s1] := by rw [oneW2, if_neg (by rw [q1]; decide), if_neg (by rw [q2]; decide)]
  rw [hE]
  obtain ⟨R, hR⟩ : ∃ R, assignS [s0, s1] = R := ⟨_, rfl⟩
  rw [hR]
  go_enter Tryz.func143, Tryz.ntmps143
  go_wp2_with fail
  refine (words_any s w hl).mono ?_
  rintro e w1 ⟨ov, rfl, hs, hk1⟩
  rw [hw] at hs
  obtain ⟨hov, hlen0⟩ | ⟨g, cap, rfl, hcap, hlt⟩ := Sl.shape hs
  · simp at hlen0
  have c0 := Strs.cell hs (i := 0) (x := s0) rfl
  have c1 := Strs.cell hs (i := 1) (x := s1) rfl
  have HK := Lib.hid hk1
  clear hk1 hcap
  have HS := Lib.hid hs
  clear hs
  have HQ := assign_any [s0, s1] g cap w1 HS.out (by simp) HLEN.out
  rw [hR] at HQ
  have HQ := Lib.hid HQ
  go_wp2_with fail
  refine HQ.out.mono ?_
  rintro e w8 hq
  have hq := SlO.back hq HK.out
  obtain ⟨⟨v, rfl, hv, ho⟩, hk8⟩ := hq
  have HV := Lib.hid hv
  have HO := Lib.hid ho
  clear hv ho
  go_wp2_with fail
  refine bodyPost_ret (v := .tuple #[v, .bool R.isSome]) (by simp [results, Tryz.results143, go_sem]) rfl ?_
  exact ⟨⟨_, rfl, HV.out, HO.out⟩, hk8⟩
set_option maxHeartbeats 8000000 in
set_option maxRecDepth 100000 in
theorem one5 (s s0 s1 s2 s3 s4 : List UInt8) (w : World) (hl : s.length ≤ 1000000) (hx : (s == [101, 120, 105, 116]) = false) (hw : wordsS s = [s0, s1, s2, s3, s4]) :
    Calls Tryz.prog 143 #[stV s] w fun e w' => SlO w (oneW [s0, s1, s2, s3, s4]) e w' := by
  have hsm : ∀ x ∈ [s0, s1, s2, s3, s4], x.length ≤ 1000000 := fun x hx => by
    rw [← hw] at hx
    have := wordsG_small [] s x hx
    simp at this
    omega
  have HLEN := Lib.hid hsm
  have hl0 := hsm s0 (by simp)
  have hl1 := hsm s1 (by simp)
  have hl2 := hsm s2 (by simp)
  have hl3 := hsm s3 (by simp)
  have hl4 := hsm s4 (by simp)
  clear hsm
  by_cases hq : s0 = [103, 111, 116, 111]
  · subst hq
    cases q : (s3 == [61])
    case false =>
      have hE : oneW [[103, 111, 116, 111], s1, s2, s3, s4] = assignS [[103, 111, 116, 111], s1, s2, s3, s4] := by rw [oneW5, if_neg (by rw [q]; decide)]
      rw [hE]
      obtain ⟨R, hR⟩ : ∃ R, assignS [[103, 111, 116, 111], s1, s2, s3, s4] = R := ⟨_, rfl⟩
      rw [hR]
      go_enter Tryz.func143, Tryz.ntmps143
      go_wp2_with fail
      refine (words_any s w hl).mono ?_
      rintro e w1 ⟨ov, rfl, hs, hk1⟩
      rw [hw] at hs
      obtain ⟨hov, hlen0⟩ | ⟨g, cap, rfl, hcap, hlt⟩ := Sl.shape hs
      · simp at hlen0
      have c0 := Strs.cell hs (i := 0) (x := [103, 111, 116, 111]) rfl
      have c1 := Strs.cell hs (i := 1) (x := s1) rfl
      have c2 := Strs.cell hs (i := 2) (x := s2) rfl
      have c3 := Strs.cell hs (i := 3) (x := s3) rfl
      have c4 := Strs.cell hs (i := 4) (x := s4) rfl
      have HK := Lib.hid hk1
      clear hk1 hcap
      have HS := Lib.hid hs
      clear hs
      have HQ := assign_any [[103, 111, 116, 111], s1, s2, s3, s4] g cap w1 HS.out (by simp) HLEN.out
      rw [hR] at HQ
      have HQ := Lib.hid HQ
      go_wp2_with fail
      refine HQ.out.mono ?_
      rintro e w8 hq
      have hq := SlO.back hq HK.out
      obtain ⟨⟨v, rfl, hv, ho⟩, hk8⟩ := hq
      have HV := Lib.hid hv
      have HO := Lib.hid ho
      clear hv ho
      go_wp2_with fail
      refine bodyPost_ret (v := .tuple #[v, .bool R.isSome]) (by simp [results, Tryz.results143, go_sem]) rfl ?_
      exact ⟨⟨_, rfl, HV.out, HO.out⟩, hk8⟩
    case true =>
      have hE : oneW [[103, 111, 116, 111], s1, s2, s3, s4] = stO (placeS [103, 111, 116, 111] s1 s2) (regS s4 114) (immS s4) := by rw [oneW5, if_pos q]
      rw [hE]
      have HP := Lib.hid (fun W => place_any [103, 111, 116, 111] s1 s2 W hl0 hl1 hl2)
      have HPO : Hid (∀ v, placeS [103, 111, 116, 111] s1 s2 = some v → (v.1 = 96 ∨ v.1 = 104 ∨ v.1 = 112 ∨ v.1 = 120) ∧ v.2.1 ≤ 10 ∧ -32768 ≤ v.2.2 ∧ v.2.2 ≤ 32767) := Lib.hid (fun v hv => placeS_op hv)
      have HB := Lib.hid (fun W => register_any s4 114 W hl4)
      have HI := Lib.hid (fun W => imm_any s4 W hl4)
      generalize regS s4 114 = rb at *
      generalize immS s4 = vi at *
      generalize placeS [103, 111, 116, 111] s1 s2 = pp at *
      go_enter Tryz.func143, Tryz.ntmps143
      go_wp2_with fail
      refine (words_any s w hl).mono ?_
      rintro e w1 ⟨ov, rfl, hs, hk1⟩
      rw [hw] at hs
      obtain ⟨hov, hlen0⟩ | ⟨g, cap, rfl, hcap, hlt⟩ := Sl.shape hs
      · simp at hlen0
      have c0 := Strs.cell hs (i := 0) (x := [103, 111, 116, 111]) rfl
      have c1 := Strs.cell hs (i := 1) (x := s1) rfl
      have c2 := Strs.cell hs (i := 2) (x := s2) rfl
      have c3 := Strs.cell hs (i := 3) (x := s3) rfl
      have c4 := Strs.cell hs (i := 4) (x := s4) rfl
      have HK := Lib.hid hk1
      clear hk1 hcap
      have HS := Lib.hid hs
      clear hs
      go_wp2_with fail
      refine wp_region_mix [.w, .w, .l, .w, .w, .l, .w, .w, .l, .k, .w, .w, .w, .w, .w, .w, .w, .w, .w] (by kernel_rfl) (by kernel_rfl) (fun W => Wd w1 g cap [[103, 111, 116, 111], s1, s2, s3, s4] W) ?_
      have hcd : Wd w1 g cap [[103, 111, 116, 111], s1, s2, s3, s4] w1.drew := Wd.to ⟨HS.out, Kept.refl _ w1⟩ (Kept.refl _ w1).drew
      repeat (refine mix_w1 ?_; go_big_quiet_step (fail); refine wpQuiet_nil ?_)
      refine mix_load1 hcd rfl 9 (.tmp 129) rfl naST ⟨g, 0, none⟩ (stV [103, 111, 116, 111]) rfl (fun w' hw' => Strs.cell hw'.1 (i := 0) rfl) ?_
      simp only [Act.put, List.setIfInBounds_toArray, List.set_cons_succ, List.set_cons_zero]
      repeat (refine mix_w1 ?_; go_big_quiet_step (fail); refine wpQuiet_nil ?_)
      refine mix_load1 hcd rfl 9 (.tmp 132) rfl naST ⟨g, 1, none⟩ (stV s1) rfl (fun w' hw' => Strs.cell hw'.1 (i := 1) rfl) ?_
      simp only [Act.put, List.setIfInBounds_toArray, List.set_cons_succ, List.set_cons_zero]
      repeat (refine mix_w1 ?_; go_big_quiet_step (fail); refine wpQuiet_nil ?_)
      refine mix_load1 hcd rfl 9 (.tmp 135) rfl naST ⟨g, 2, none⟩ (stV s2) rfl (fun w' hw' => Strs.cell hw'.1 (i := 2) rfl) ?_
      simp only [Act.put, List.setIfInBounds_toArray, List.set_cons_succ, List.set_cons_zero]
      refine mix_k hcd fun Q' hQ' => ?_
      go_wp2_with fail
      refine (HP.out _).mono ?_
      rintro e w8 ⟨⟨x, z, o, rfl, hx⟩, hk8⟩
      have hc8 := Wd.to hcd hk8
      go_wp2_with fail
      refine hQ' _ _ hc8 ?_
      clear hQ' Q' hcd hk8
      repeat (refine mix_w1 ?_; go_big_quiet_step (fail); refine wpQuiet_nil ?_)
      refine mix_done ?_
      cases pp with
      | none =>
        clear hx
        have HC8 := Lib.hid hc8
        clear hc8 c0 c1 c2 c3 c4
        go_wp2_with fail
        refine bodyPost_ret (v := .tuple #[.slice none 0 0, .bool false]) (by simp [results, Tryz.results143, go_sem]) rfl ?_
        exact ⟨⟨_, rfl, fun l h => by (cases h), fun k hk => own_none hk⟩, HK.out.trans HC8.out.2 (fun _ _ h => h)⟩
      | some v =>
        obtain ⟨op, rs, of⟩ := v
        obtain ⟨hp1, hp2, hp3, hp4⟩ := HPO.out _ rfl
        obtain ⟨e1, e2, e3⟩ := hx _ rfl
        clear hx HPO
        have e1 : x = op := e1
        have e2 : z = (rs : Int) := e2
        have e3 : o = of := e3
        subst e1 e2 e3
        have hp5 : 96 ≤ x ∧ x ≤ 120 := by omega
        have hp2 : rs ≤ 10 := hp2
        have hp6 : -32768 ≤ o ∧ o ≤ 32767 := ⟨hp3, hp4⟩
        clear hp1 hp3 hp4
        have HC8 := Lib.hid hc8
        have hk8 := Lib.hid (HK.out.trans hc8.2 (fun _ _ h => h))
        have d4 := Strs.cell hc8.1 (i := 4) (x := s4) rfl
        have hlt8 := Sl.lt hc8.1 g rfl
        clear hc8 c0 c1 c2 c3 c4 hlt
        go_wp2_with fail
        refine (HB.out _).mono ?_
        rintro e w9 ⟨⟨z, rfl, hz⟩, rfl⟩
        cases rb with
        | some b =>
          obtain rfl := hz b rfl
          clear hz
          go_wp2_with fail
          refine bodyPost_ret (v := .tuple #[.slice (some ⟨w8.heap.size, 0, none⟩) 1 1, .bool true]) (by simp [results, Tryz.results143, go_sem]) rfl ?_
          refine ⟨⟨_, rfl, fun l h => ?_, fun k hk => own_at hk8.out.size hk⟩, hk8.out.alloc _⟩
          cases h
          exact inS_one _ ⟨x + 3, rs, b, o, 0⟩ rfl
        | none =>
          clear hz
          go_wp2_with fail
          refine (HI.out _).mono ?_
          rintro e w10 ⟨⟨v, rfl, hv⟩, rfl⟩
          cases vi with
          | none =>
            clear hv
            go_wp2_with fail
            refine bodyPost_ret (v := .tuple #[.slice (some ⟨w8.heap.size, 0, none⟩) 1 1, .bool false]) (by simp [results, Tryz.results143, go_sem]) rfl ?_
            exact ⟨⟨_, rfl, fun l h => by (cases h), fun k hk => own_at hk8.out.size hk⟩, hk8.out.alloc _⟩
          | some v' =>
            obtain rfl := hv v' rfl
            clear hv
            go_wp2_with fail
            refine bodyPost_ret (v := .tuple #[.slice (some ⟨w8.heap.size, 0, none⟩) 1 1, .bool true]) (by simp [results, Tryz.results143, go_sem]) rfl ?_
            refine ⟨⟨_, rfl, fun l h => ?_, fun k hk => own_at hk8.out.size hk⟩, hk8.out.alloc _⟩
            cases h
            exact inS_one _ ⟨x + 2, rs, 0, o, v⟩ rfl
  by_cases hq : s0 = [99, 97, 108, 108]
  · subst hq
    cases q : (s3 == [61])
    case false =>
      have hE : oneW [[99, 97, 108, 108], s1, s2, s3, s4] = assignS [[99, 97, 108, 108], s1, s2, s3, s4] := by rw [oneW5, if_neg (by rw [q]; decide)]
      rw [hE]
      obtain ⟨R, hR⟩ : ∃ R, assignS [[99, 97, 108, 108], s1, s2, s3, s4] = R := ⟨_, rfl⟩
      rw [hR]
      go_enter Tryz.func143, Tryz.ntmps143
      go_wp2_with fail
      refine (words_any s w hl).mono ?_
      rintro e w1 ⟨ov, rfl, hs, hk1⟩
      rw [hw] at hs
      obtain ⟨hov, hlen0⟩ | ⟨g, cap, rfl, hcap, hlt⟩ := Sl.shape hs
      · simp at hlen0
      have c0 := Strs.cell hs (i := 0) (x := [99, 97, 108, 108]) rfl
      have c1 := Strs.cell hs (i := 1) (x := s1) rfl
      have c2 := Strs.cell hs (i := 2) (x := s2) rfl
      have c3 := Strs.cell hs (i := 3) (x := s3) rfl
      have c4 := Strs.cell hs (i := 4) (x := s4) rfl
      have HK := Lib.hid hk1
      clear hk1 hcap
      have HS := Lib.hid hs
      clear hs
      have HQ := assign_any [[99, 97, 108, 108], s1, s2, s3, s4] g cap w1 HS.out (by simp) HLEN.out
      rw [hR] at HQ
      have HQ := Lib.hid HQ
      go_wp2_with fail
      refine HQ.out.mono ?_
      rintro e w8 hq
      have hq := SlO.back hq HK.out
      obtain ⟨⟨v, rfl, hv, ho⟩, hk8⟩ := hq
      have HV := Lib.hid hv
      have HO := Lib.hid ho
      clear hv ho
      go_wp2_with fail
      refine bodyPost_ret (v := .tuple #[v, .bool R.isSome]) (by simp [results, Tryz.results143, go_sem]) rfl ?_
      exact ⟨⟨_, rfl, HV.out, HO.out⟩, hk8⟩
    case true =>
      have hE : oneW [[99, 97, 108, 108], s1, s2, s3, s4] = stO (placeS [99, 97, 108, 108] s1 s2) (regS s4 114) (immS s4) := by rw [oneW5, if_pos q]
      rw [hE]
      have HP := Lib.hid (fun W => place_any [99, 97, 108, 108] s1 s2 W hl0 hl1 hl2)
      have HPO : Hid (∀ v, placeS [99, 97, 108, 108] s1 s2 = some v → (v.1 = 96 ∨ v.1 = 104 ∨ v.1 = 112 ∨ v.1 = 120) ∧ v.2.1 ≤ 10 ∧ -32768 ≤ v.2.2 ∧ v.2.2 ≤ 32767) := Lib.hid (fun v hv => placeS_op hv)
      have HB := Lib.hid (fun W => register_any s4 114 W hl4)
      have HI := Lib.hid (fun W => imm_any s4 W hl4)
      generalize regS s4 114 = rb at *
      generalize immS s4 = vi at *
      generalize placeS [99, 97, 108, 108] s1 s2 = pp at *
      go_enter Tryz.func143, Tryz.ntmps143
      go_wp2_with fail
      refine (words_any s w hl).mono ?_
      rintro e w1 ⟨ov, rfl, hs, hk1⟩
      rw [hw] at hs
      obtain ⟨hov, hlen0⟩ | ⟨g, cap, rfl, hcap, hlt⟩ := Sl.shape hs
      · simp at hlen0
      have c0 := Strs.cell hs (i := 0) (x := [99, 97, 108, 108]) rfl
      have c1 := Strs.cell hs (i := 1) (x := s1) rfl
      have c2 := Strs.cell hs (i := 2) (x := s2) rfl
      have c3 := Strs.cell hs (i := 3) (x := s3) rfl
      have c4 := Strs.cell hs (i := 4) (x := s4) rfl
      have HK := Lib.hid hk1
      clear hk1 hcap
      have HS := Lib.hid hs
      clear hs
      go_wp2_with fail
      refine wp_region_mix [.w, .w, .l, .w, .w, .l, .w, .w, .l, .k, .w, .w, .w, .w, .w, .w, .w, .w, .w] (by kernel_rfl) (by kernel_rfl) (fun W => Wd w1 g cap [[99, 97, 108, 108], s1, s2, s3, s4] W) ?_
      have hcd : Wd w1 g cap [[99, 97, 108, 108], s1, s2, s3, s4] w1.drew := Wd.to ⟨HS.out, Kept.refl _ w1⟩ (Kept.refl _ w1).drew
      repeat (refine mix_w1 ?_; go_big_quiet_step (fail); refine wpQuiet_nil ?_)
      refine mix_load1 hcd rfl 9 (.tmp 129) rfl naST ⟨g, 0, none⟩ (stV [99, 97, 108, 108]) rfl (fun w' hw' => Strs.cell hw'.1 (i := 0) rfl) ?_
      simp only [Act.put, List.setIfInBounds_toArray, List.set_cons_succ, List.set_cons_zero]
      repeat (refine mix_w1 ?_; go_big_quiet_step (fail); refine wpQuiet_nil ?_)
      refine mix_load1 hcd rfl 9 (.tmp 132) rfl naST ⟨g, 1, none⟩ (stV s1) rfl (fun w' hw' => Strs.cell hw'.1 (i := 1) rfl) ?_
      simp only [Act.put, List.setIfInBounds_toArray, List.set_cons_succ, List.set_cons_zero]
      repeat (refine mix_w1 ?_; go_big_quiet_step (fail); refine wpQuiet_nil ?_)
      refine mix_load1 hcd rfl 9 (.tmp 135) rfl naST ⟨g, 2, none⟩ (stV s2) rfl (fun w' hw' => Strs.cell hw'.1 (i := 2) rfl) ?_
      simp only [Act.put, List.setIfInBounds_toArray, List.set_cons_succ, List.set_cons_zero]
      refine mix_k hcd fun Q' hQ' => ?_
      go_wp2_with fail
      refine (HP.out _).mono ?_
      rintro e w8 ⟨⟨x, z, o, rfl, hx⟩, hk8⟩
      have hc8 := Wd.to hcd hk8
      go_wp2_with fail
      refine hQ' _ _ hc8 ?_
      clear hQ' Q' hcd hk8
      repeat (refine mix_w1 ?_; go_big_quiet_step (fail); refine wpQuiet_nil ?_)
      refine mix_done ?_
      cases pp with
      | none =>
        clear hx
        have HC8 := Lib.hid hc8
        clear hc8 c0 c1 c2 c3 c4
        go_wp2_with fail
        refine bodyPost_ret (v := .tuple #[.slice none 0 0, .bool false]) (by simp [results, Tryz.results143, go_sem]) rfl ?_
        exact ⟨⟨_, rfl, fun l h => by (cases h), fun k hk => own_none hk⟩, HK.out.trans HC8.out.2 (fun _ _ h => h)⟩
      | some v =>
        obtain ⟨op, rs, of⟩ := v
        obtain ⟨hp1, hp2, hp3, hp4⟩ := HPO.out _ rfl
        obtain ⟨e1, e2, e3⟩ := hx _ rfl
        clear hx HPO
        have e1 : x = op := e1
        have e2 : z = (rs : Int) := e2
        have e3 : o = of := e3
        subst e1 e2 e3
        have hp5 : 96 ≤ x ∧ x ≤ 120 := by omega
        have hp2 : rs ≤ 10 := hp2
        have hp6 : -32768 ≤ o ∧ o ≤ 32767 := ⟨hp3, hp4⟩
        clear hp1 hp3 hp4
        have HC8 := Lib.hid hc8
        have hk8 := Lib.hid (HK.out.trans hc8.2 (fun _ _ h => h))
        have d4 := Strs.cell hc8.1 (i := 4) (x := s4) rfl
        have hlt8 := Sl.lt hc8.1 g rfl
        clear hc8 c0 c1 c2 c3 c4 hlt
        go_wp2_with fail
        refine (HB.out _).mono ?_
        rintro e w9 ⟨⟨z, rfl, hz⟩, rfl⟩
        cases rb with
        | some b =>
          obtain rfl := hz b rfl
          clear hz
          go_wp2_with fail
          refine bodyPost_ret (v := .tuple #[.slice (some ⟨w8.heap.size, 0, none⟩) 1 1, .bool true]) (by simp [results, Tryz.results143, go_sem]) rfl ?_
          refine ⟨⟨_, rfl, fun l h => ?_, fun k hk => own_at hk8.out.size hk⟩, hk8.out.alloc _⟩
          cases h
          exact inS_one _ ⟨x + 3, rs, b, o, 0⟩ rfl
        | none =>
          clear hz
          go_wp2_with fail
          refine (HI.out _).mono ?_
          rintro e w10 ⟨⟨v, rfl, hv⟩, rfl⟩
          cases vi with
          | none =>
            clear hv
            go_wp2_with fail
            refine bodyPost_ret (v := .tuple #[.slice (some ⟨w8.heap.size, 0, none⟩) 1 1, .bool false]) (by simp [results, Tryz.results143, go_sem]) rfl ?_
            exact ⟨⟨_, rfl, fun l h => by (cases h), fun k hk => own_at hk8.out.size hk⟩, hk8.out.alloc _⟩
          | some v' =>
            obtain rfl := hv v' rfl
            clear hv
            go_wp2_with fail
            refine bodyPost_ret (v := .tuple #[.slice (some ⟨w8.heap.size, 0, none⟩) 1 1, .bool true]) (by simp [results, Tryz.results143, go_sem]) rfl ?_
            refine ⟨⟨_, rfl, fun l h => ?_, fun k hk => own_at hk8.out.size hk⟩, hk8.out.alloc _⟩
            cases h
            exact inS_one _ ⟨x + 2, rs, 0, o, v⟩ rfl
  by_cases hq : s0 = [105, 102]
  · subst hq
    cases q : (s3 == [61])
    case false =>
      have hE : oneW [[105, 102], s1, s2, s3, s4] = assignS [[105, 102], s1, s2, s3, s4] := by rw [oneW5, if_neg (by rw [q]; decide)]
      rw [hE]
      obtain ⟨R, hR⟩ : ∃ R, assignS [[105, 102], s1, s2, s3, s4] = R := ⟨_, rfl⟩
      rw [hR]
      go_enter Tryz.func143, Tryz.ntmps143
      go_wp2_with fail
      refine (words_any s w hl).mono ?_
      rintro e w1 ⟨ov, rfl, hs, hk1⟩
      rw [hw] at hs
      obtain ⟨hov, hlen0⟩ | ⟨g, cap, rfl, hcap, hlt⟩ := Sl.shape hs
      · simp at hlen0
      have c0 := Strs.cell hs (i := 0) (x := [105, 102]) rfl
      have c1 := Strs.cell hs (i := 1) (x := s1) rfl
      have c2 := Strs.cell hs (i := 2) (x := s2) rfl
      have c3 := Strs.cell hs (i := 3) (x := s3) rfl
      have c4 := Strs.cell hs (i := 4) (x := s4) rfl
      have HK := Lib.hid hk1
      clear hk1 hcap
      have HS := Lib.hid hs
      clear hs
      have HQ := assign_any [[105, 102], s1, s2, s3, s4] g cap w1 HS.out (by simp) HLEN.out
      rw [hR] at HQ
      have HQ := Lib.hid HQ
      go_wp2_with fail
      refine HQ.out.mono ?_
      rintro e w8 hq
      have hq := SlO.back hq HK.out
      obtain ⟨⟨v, rfl, hv, ho⟩, hk8⟩ := hq
      have HV := Lib.hid hv
      have HO := Lib.hid ho
      clear hv ho
      go_wp2_with fail
      refine bodyPost_ret (v := .tuple #[v, .bool R.isSome]) (by simp [results, Tryz.results143, go_sem]) rfl ?_
      exact ⟨⟨_, rfl, HV.out, HO.out⟩, hk8⟩
    case true =>
      have hE : oneW [[105, 102], s1, s2, s3, s4] = stO (placeS [105, 102] s1 s2) (regS s4 114) (immS s4) := by rw [oneW5, if_pos q]
      rw [hE]
      have HP := Lib.hid (fun W => place_any [105, 102] s1 s2 W hl0 hl1 hl2)
      have HPO : Hid (∀ v, placeS [105, 102] s1 s2 = some v → (v.1 = 96 ∨ v.1 = 104 ∨ v.1 = 112 ∨ v.1 = 120) ∧ v.2.1 ≤ 10 ∧ -32768 ≤ v.2.2 ∧ v.2.2 ≤ 32767) := Lib.hid (fun v hv => placeS_op hv)
      have HB := Lib.hid (fun W => register_any s4 114 W hl4)
      have HI := Lib.hid (fun W => imm_any s4 W hl4)
      generalize regS s4 114 = rb at *
      generalize immS s4 = vi at *
      generalize placeS [105, 102] s1 s2 = pp at *
      go_enter Tryz.func143, Tryz.ntmps143
      go_wp2_with fail
      refine (words_any s w hl).mono ?_
      rintro e w1 ⟨ov, rfl, hs, hk1⟩
      rw [hw] at hs
      obtain ⟨hov, hlen0⟩ | ⟨g, cap, rfl, hcap, hlt⟩ := Sl.shape hs
      · simp at hlen0
      have c0 := Strs.cell hs (i := 0) (x := [105, 102]) rfl
      have c1 := Strs.cell hs (i := 1) (x := s1) rfl
      have c2 := Strs.cell hs (i := 2) (x := s2) rfl
      have c3 := Strs.cell hs (i := 3) (x := s3) rfl
      have c4 := Strs.cell hs (i := 4) (x := s4) rfl
      have HK := Lib.hid hk1
      clear hk1 hcap
      have HS := Lib.hid hs
      clear hs
      go_wp2_with fail
      refine wp_region_mix [.w, .w, .l, .w, .w, .l, .w, .w, .l, .k, .w, .w, .w, .w, .w, .w, .w, .w, .w] (by kernel_rfl) (by kernel_rfl) (fun W => Wd w1 g cap [[105, 102], s1, s2, s3, s4] W) ?_
      have hcd : Wd w1 g cap [[105, 102], s1, s2, s3, s4] w1.drew := Wd.to ⟨HS.out, Kept.refl _ w1⟩ (Kept.refl _ w1).drew
      repeat (refine mix_w1 ?_; go_big_quiet_step (fail); refine wpQuiet_nil ?_)
      refine mix_load1 hcd rfl 9 (.tmp 129) rfl naST ⟨g, 0, none⟩ (stV [105, 102]) rfl (fun w' hw' => Strs.cell hw'.1 (i := 0) rfl) ?_
      simp only [Act.put, List.setIfInBounds_toArray, List.set_cons_succ, List.set_cons_zero]
      repeat (refine mix_w1 ?_; go_big_quiet_step (fail); refine wpQuiet_nil ?_)
      refine mix_load1 hcd rfl 9 (.tmp 132) rfl naST ⟨g, 1, none⟩ (stV s1) rfl (fun w' hw' => Strs.cell hw'.1 (i := 1) rfl) ?_
      simp only [Act.put, List.setIfInBounds_toArray, List.set_cons_succ, List.set_cons_zero]
      repeat (refine mix_w1 ?_; go_big_quiet_step (fail); refine wpQuiet_nil ?_)
      refine mix_load1 hcd rfl 9 (.tmp 135) rfl naST ⟨g, 2, none⟩ (stV s2) rfl (fun w' hw' => Strs.cell hw'.1 (i := 2) rfl) ?_
      simp only [Act.put, List.setIfInBounds_toArray, List.set_cons_succ, List.set_cons_zero]
      refine mix_k hcd fun Q' hQ' => ?_
      go_wp2_with fail
      refine (HP.out _).mono ?_
      rintro e w8 ⟨⟨x, z, o, rfl, hx⟩, hk8⟩
      have hc8 := Wd.to hcd hk8
      go_wp2_with fail
      refine hQ' _ _ hc8 ?_
      clear hQ' Q' hcd hk8
      repeat (refine mix_w1 ?_; go_big_quiet_step (fail); refine wpQuiet_nil ?_)
      refine mix_done ?_
      cases pp with
      | none =>
        clear hx
        have HC8 := Lib.hid hc8
        clear hc8 c0 c1 c2 c3 c4
        go_wp2_with fail
        refine bodyPost_ret (v := .tuple #[.slice none 0 0, .bool false]) (by simp [results, Tryz.results143, go_sem]) rfl ?_
        exact ⟨⟨_, rfl, fun l h => by (cases h), fun k hk => own_none hk⟩, HK.out.trans HC8.out.2 (fun _ _ h => h)⟩
      | some v =>
        obtain ⟨op, rs, of⟩ := v
        obtain ⟨hp1, hp2, hp3, hp4⟩ := HPO.out _ rfl
        obtain ⟨e1, e2, e3⟩ := hx _ rfl
        clear hx HPO
        have e1 : x = op := e1
        have e2 : z = (rs : Int) := e2
        have e3 : o = of := e3
        subst e1 e2 e3
        have hp5 : 96 ≤ x ∧ x ≤ 120 := by omega
        have hp2 : rs ≤ 10 := hp2
        have hp6 : -32768 ≤ o ∧ o ≤ 32767 := ⟨hp3, hp4⟩
        clear hp1 hp3 hp4
        have HC8 := Lib.hid hc8
        have hk8 := Lib.hid (HK.out.trans hc8.2 (fun _ _ h => h))
        have d4 := Strs.cell hc8.1 (i := 4) (x := s4) rfl
        have hlt8 := Sl.lt hc8.1 g rfl
        clear hc8 c0 c1 c2 c3 c4 hlt
        go_wp2_with fail
        refine (HB.out _).mono ?_
        rintro e w9 ⟨⟨z, rfl, hz⟩, rfl⟩
        cases rb with
        | some b =>
          obtain rfl := hz b rfl
          clear hz
          go_wp2_with fail
          refine bodyPost_ret (v := .tuple #[.slice (some ⟨w8.heap.size, 0, none⟩) 1 1, .bool true]) (by simp [results, Tryz.results143, go_sem]) rfl ?_
          refine ⟨⟨_, rfl, fun l h => ?_, fun k hk => own_at hk8.out.size hk⟩, hk8.out.alloc _⟩
          cases h
          exact inS_one _ ⟨x + 3, rs, b, o, 0⟩ rfl
        | none =>
          clear hz
          go_wp2_with fail
          refine (HI.out _).mono ?_
          rintro e w10 ⟨⟨v, rfl, hv⟩, rfl⟩
          cases vi with
          | none =>
            clear hv
            go_wp2_with fail
            refine bodyPost_ret (v := .tuple #[.slice (some ⟨w8.heap.size, 0, none⟩) 1 1, .bool false]) (by simp [results, Tryz.results143, go_sem]) rfl ?_
            exact ⟨⟨_, rfl, fun l h => by (cases h), fun k hk => own_at hk8.out.size hk⟩, hk8.out.alloc _⟩
          | some v' =>
            obtain rfl := hv v' rfl
            clear hv
            go_wp2_with fail
            refine bodyPost_ret (v := .tuple #[.slice (some ⟨w8.heap.size, 0, none⟩) 1 1, .bool true]) (by simp [results, Tryz.results143, go_sem]) rfl ?_
            refine ⟨⟨_, rfl, fun l h => ?_, fun k hk => own_at hk8.out.size hk⟩, hk8.out.alloc _⟩
            cases h
            exact inS_one _ ⟨x + 2, rs, 0, o, v⟩ rfl
  have q1 : (s0 == [103, 111, 116, 111]) = false := beq_eq_false_iff_ne.2 ‹¬ s0 = [103, 111, 116, 111]›
  have q2 : (s0 == [99, 97, 108, 108]) = false := beq_eq_false_iff_ne.2 ‹¬ s0 = [99, 97, 108, 108]›
  have q3 : (s0 == [105, 102]) = false := beq_eq_false_iff_ne.2 ‹¬ s0 = [105, 102]›
  cases q : (s3 == [61])
  case false =>
    have hE : oneW [s0, s1, s2, s3, s4] = assignS [s0, s1, s2, s3, s4] := by rw [oneW5, if_neg (by rw [q]; decide)]
    rw [hE]
    obtain ⟨R, hR⟩ : ∃ R, assignS [s0, s1, s2, s3, s4] = R := ⟨_, rfl⟩
    rw [hR]
    go_enter Tryz.func143, Tryz.ntmps143
    go_wp2_with fail
    refine (words_any s w hl).mono ?_
    rintro e w1 ⟨ov, rfl, hs, hk1⟩
    rw [hw] at hs
    obtain ⟨hov, hlen0⟩ | ⟨g, cap, rfl, hcap, hlt⟩ := Sl.shape hs
    · simp at hlen0
    have c0 := Strs.cell hs (i := 0) (x := s0) rfl
    have c1 := Strs.cell hs (i := 1) (x := s1) rfl
    have c2 := Strs.cell hs (i := 2) (x := s2) rfl
    have c3 := Strs.cell hs (i := 3) (x := s3) rfl
    have c4 := Strs.cell hs (i := 4) (x := s4) rfl
    have HK := Lib.hid hk1
    clear hk1 hcap
    have HS := Lib.hid hs
    clear hs
    have HQ := assign_any [s0, s1, s2, s3, s4] g cap w1 HS.out (by simp) HLEN.out
    rw [hR] at HQ
    have HQ := Lib.hid HQ
    go_wp2_with fail
    refine HQ.out.mono ?_
    rintro e w8 hq
    have hq := SlO.back hq HK.out
    obtain ⟨⟨v, rfl, hv, ho⟩, hk8⟩ := hq
    have HV := Lib.hid hv
    have HO := Lib.hid ho
    clear hv ho
    go_wp2_with fail
    refine bodyPost_ret (v := .tuple #[v, .bool R.isSome]) (by simp [results, Tryz.results143, go_sem]) rfl ?_
    exact ⟨⟨_, rfl, HV.out, HO.out⟩, hk8⟩
  case true =>
    have hE : oneW [s0, s1, s2, s3, s4] = stO (placeS s0 s1 s2) (regS s4 114) (immS s4) := by rw [oneW5, if_pos q]
    rw [hE]
    have HP := Lib.hid (fun W => place_any s0 s1 s2 W hl0 hl1 hl2)
    have HPO : Hid (∀ v, placeS s0 s1 s2 = some v → (v.1 = 96 ∨ v.1 = 104 ∨ v.1 = 112 ∨ v.1 = 120) ∧ v.2.1 ≤ 10 ∧ -32768 ≤ v.2.2 ∧ v.2.2 ≤ 32767) := Lib.hid (fun v hv => placeS_op hv)
    have HB := Lib.hid (fun W => register_any s4 114 W hl4)
    have HI := Lib.hid (fun W => imm_any s4 W hl4)
    generalize regS s4 114 = rb at *
    generalize immS s4 = vi at *
    generalize placeS s0 s1 s2 = pp at *
    go_enter Tryz.func143, Tryz.ntmps143
    go_wp2_with fail
    refine (words_any s w hl).mono ?_
    rintro e w1 ⟨ov, rfl, hs, hk1⟩
    rw [hw] at hs
    obtain ⟨hov, hlen0⟩ | ⟨g, cap, rfl, hcap, hlt⟩ := Sl.shape hs
    · simp at hlen0
    have c0 := Strs.cell hs (i := 0) (x := s0) rfl
    have c1 := Strs.cell hs (i := 1) (x := s1) rfl
    have c2 := Strs.cell hs (i := 2) (x := s2) rfl
    have c3 := Strs.cell hs (i := 3) (x := s3) rfl
    have c4 := Strs.cell hs (i := 4) (x := s4) rfl
    have HK := Lib.hid hk1
    clear hk1 hcap
    have HS := Lib.hid hs
    clear hs
    go_wp2_with fail
    refine wp_region_mix [.w, .w, .l, .w, .w, .l, .w, .w, .l, .k, .w, .w, .w, .w, .w, .w, .w, .w, .w] (by kernel_rfl) (by kernel_rfl) (fun W => Wd w1 g cap [s0, s1, s2, s3, s4] W) ?_
    have hcd : Wd w1 g cap [s0, s1, s2, s3, s4] w1.drew := Wd.to ⟨HS.out, Kept.refl _ w1⟩ (Kept.refl _ w1).drew
    repeat (refine mix_w1 ?_; go_big_quiet_step (fail); refine wpQuiet_nil ?_)
    refine mix_load1 hcd rfl 9 (.tmp 129) rfl naST ⟨g, 0, none⟩ (stV s0) rfl (fun w' hw' => Strs.cell hw'.1 (i := 0) rfl) ?_
    simp only [Act.put, List.setIfInBounds_toArray, List.set_cons_succ, List.set_cons_zero]
    repeat (refine mix_w1 ?_; go_big_quiet_step (fail); refine wpQuiet_nil ?_)
    refine mix_load1 hcd rfl 9 (.tmp 132) rfl naST ⟨g, 1, none⟩ (stV s1) rfl (fun w' hw' => Strs.cell hw'.1 (i := 1) rfl) ?_
    simp only [Act.put, List.setIfInBounds_toArray, List.set_cons_succ, List.set_cons_zero]
    repeat (refine mix_w1 ?_; go_big_quiet_step (fail); refine wpQuiet_nil ?_)
    refine mix_load1 hcd rfl 9 (.tmp 135) rfl naST ⟨g, 2, none⟩ (stV s2) rfl (fun w' hw' => Strs.cell hw'.1 (i := 2) rfl) ?_
    simp only [Act.put, List.setIfInBounds_toArray, List.set_cons_succ, List.set_cons_zero]
    refine mix_k hcd fun Q' hQ' => ?_
    go_wp2_with fail
    refine (HP.out _).mono ?_
    rintro e w8 ⟨⟨x, z, o, rfl, hx⟩, hk8⟩
    have hc8 := Wd.to hcd hk8
    go_wp2_with fail
    refine hQ' _ _ hc8 ?_
    clear hQ' Q' hcd hk8
    repeat (refine mix_w1 ?_; go_big_quiet_step (fail); refine wpQuiet_nil ?_)
    refine mix_done ?_
    cases pp with
    | none =>
      clear hx
      have HC8 := Lib.hid hc8
      clear hc8 c0 c1 c2 c3 c4
      go_wp2_with fail
      refine bodyPost_ret (v := .tuple #[.slice none 0 0, .bool false]) (by simp [results, Tryz.results143, go_sem]) rfl ?_
      exact ⟨⟨_, rfl, fun l h => by (cases h), fun k hk => own_none hk⟩, HK.out.trans HC8.out.2 (fun _ _ h => h)⟩
    | some v =>
      obtain ⟨op, rs, of⟩ := v
      obtain ⟨hp1, hp2, hp3, hp4⟩ := HPO.out _ rfl
      obtain ⟨e1, e2, e3⟩ := hx _ rfl
      clear hx HPO
      have e1 : x = op := e1
      have e2 : z = (rs : Int) := e2
      have e3 : o = of := e3
      subst e1 e2 e3
      have hp5 : 96 ≤ x ∧ x ≤ 120 := by omega
      have hp2 : rs ≤ 10 := hp2
      have hp6 : -32768 ≤ o ∧ o ≤ 32767 := ⟨hp3, hp4⟩
      clear hp1 hp3 hp4
      have HC8 := Lib.hid hc8
      have hk8 := Lib.hid (HK.out.trans hc8.2 (fun _ _ h => h))
      have d4 := Strs.cell hc8.1 (i := 4) (x := s4) rfl
      have hlt8 := Sl.lt hc8.1 g rfl
      clear hc8 c0 c1 c2 c3 c4 hlt
      go_wp2_with fail
      refine (HB.out _).mono ?_
      rintro e w9 ⟨⟨z, rfl, hz⟩, rfl⟩
      cases rb with
      | some b =>
        obtain rfl := hz b rfl
        clear hz
        go_wp2_with fail
        refine bodyPost_ret (v := .tuple #[.slice (some ⟨w8.heap.size, 0, none⟩) 1 1, .bool true]) (by simp [results, Tryz.results143, go_sem]) rfl ?_
        refine ⟨⟨_, rfl, fun l h => ?_, fun k hk => own_at hk8.out.size hk⟩, hk8.out.alloc _⟩
        cases h
        exact inS_one _ ⟨x + 3, rs, b, o, 0⟩ rfl
      | none =>
        clear hz
        go_wp2_with fail
        refine (HI.out _).mono ?_
        rintro e w10 ⟨⟨v, rfl, hv⟩, rfl⟩
        cases vi with
        | none =>
          clear hv
          go_wp2_with fail
          refine bodyPost_ret (v := .tuple #[.slice (some ⟨w8.heap.size, 0, none⟩) 1 1, .bool false]) (by simp [results, Tryz.results143, go_sem]) rfl ?_
          exact ⟨⟨_, rfl, fun l h => by (cases h), fun k hk => own_at hk8.out.size hk⟩, hk8.out.alloc _⟩
        | some v' =>
          obtain rfl := hv v' rfl
          clear hv
          go_wp2_with fail
          refine bodyPost_ret (v := .tuple #[.slice (some ⟨w8.heap.size, 0, none⟩) 1 1, .bool true]) (by simp [results, Tryz.results143, go_sem]) rfl ?_
          refine ⟨⟨_, rfl, fun l h => ?_, fun k hk => own_at hk8.out.size hk⟩, hk8.out.alloc _⟩
          cases h
          exact inS_one _ ⟨x + 2, rs, 0, o, v⟩ rfl
set_option maxHeartbeats 8000000 in
set_option maxRecDepth 100000 in
theorem one6 (s s0 s1 s2 s3 s4 s5 : List UInt8) (w : World) (hl : s.length ≤ 1000000) (hx : (s == [101, 120, 105, 116]) = false) (hw : wordsS s = [s0, s1, s2, s3, s4, s5]) :
    Calls Tryz.prog 143 #[stV s] w fun e w' => SlO w (oneW [s0, s1, s2, s3, s4, s5]) e w' := by
  have hsm : ∀ x ∈ [s0, s1, s2, s3, s4, s5], x.length ≤ 1000000 := fun x hx => by
    rw [← hw] at hx
    have := wordsG_small [] s x hx
    simp at this
    omega
  have HLEN := Lib.hid hsm
  have hl0 := hsm s0 (by simp)
  have hl1 := hsm s1 (by simp)
  have hl2 := hsm s2 (by simp)
  have hl3 := hsm s3 (by simp)
  have hl4 := hsm s4 (by simp)
  have hl5 := hsm s5 (by simp)
  clear hsm
  by_cases hq : s0 = [103, 111, 116, 111]
  · subst hq
    have hE : oneW [[103, 111, 116, 111], s1, s2, s3, s4, s5] = assignS [[103, 111, 116, 111], s1, s2, s3, s4, s5] := rfl
    rw [hE]
    obtain ⟨R, hR⟩ : ∃ R, assignS [[103, 111, 116, 111], s1, s2, s3, s4, s5] = R := ⟨_, rfl⟩
    rw [hR]
    go_enter Tryz.func143, Tryz.ntmps143
    go_wp2_with fail
    refine (words_any s w hl).mono ?_
    rintro e w1 ⟨ov, rfl, hs, hk1⟩
    rw [hw] at hs
    obtain ⟨hov, hlen0⟩ | ⟨g, cap, rfl, hcap, hlt⟩ := Sl.shape hs
    · simp at hlen0
    have c0 := Strs.cell hs (i := 0) (x := [103, 111, 116, 111]) rfl
    have c1 := Strs.cell hs (i := 1) (x := s1) rfl
    have c2 := Strs.cell hs (i := 2) (x := s2) rfl
    have c3 := Strs.cell hs (i := 3) (x := s3) rfl
    have c4 := Strs.cell hs (i := 4) (x := s4) rfl
    have c5 := Strs.cell hs (i := 5) (x := s5) rfl
    have HK := Lib.hid hk1
    clear hk1 hcap
    have HS := Lib.hid hs
    clear hs
    have HQ := assign_any [[103, 111, 116, 111], s1, s2, s3, s4, s5] g cap w1 HS.out (by simp) HLEN.out
    rw [hR] at HQ
    have HQ := Lib.hid HQ
    go_wp2_with fail
    refine HQ.out.mono ?_
    rintro e w8 hq
    have hq := SlO.back hq HK.out
    obtain ⟨⟨v, rfl, hv, ho⟩, hk8⟩ := hq
    have HV := Lib.hid hv
    have HO := Lib.hid ho
    clear hv ho
    go_wp2_with fail
    refine bodyPost_ret (v := .tuple #[v, .bool R.isSome]) (by simp [results, Tryz.results143, go_sem]) rfl ?_
    exact ⟨⟨_, rfl, HV.out, HO.out⟩, hk8⟩
  by_cases hq : s0 = [99, 97, 108, 108]
  · subst hq
    have hE : oneW [[99, 97, 108, 108], s1, s2, s3, s4, s5] = assignS [[99, 97, 108, 108], s1, s2, s3, s4, s5] := rfl
    rw [hE]
    obtain ⟨R, hR⟩ : ∃ R, assignS [[99, 97, 108, 108], s1, s2, s3, s4, s5] = R := ⟨_, rfl⟩
    rw [hR]
    go_enter Tryz.func143, Tryz.ntmps143
    go_wp2_with fail
    refine (words_any s w hl).mono ?_
    rintro e w1 ⟨ov, rfl, hs, hk1⟩
    rw [hw] at hs
    obtain ⟨hov, hlen0⟩ | ⟨g, cap, rfl, hcap, hlt⟩ := Sl.shape hs
    · simp at hlen0
    have c0 := Strs.cell hs (i := 0) (x := [99, 97, 108, 108]) rfl
    have c1 := Strs.cell hs (i := 1) (x := s1) rfl
    have c2 := Strs.cell hs (i := 2) (x := s2) rfl
    have c3 := Strs.cell hs (i := 3) (x := s3) rfl
    have c4 := Strs.cell hs (i := 4) (x := s4) rfl
    have c5 := Strs.cell hs (i := 5) (x := s5) rfl
    have HK := Lib.hid hk1
    clear hk1 hcap
    have HS := Lib.hid hs
    clear hs
    have HQ := assign_any [[99, 97, 108, 108], s1, s2, s3, s4, s5] g cap w1 HS.out (by simp) HLEN.out
    rw [hR] at HQ
    have HQ := Lib.hid HQ
    go_wp2_with fail
    refine HQ.out.mono ?_
    rintro e w8 hq
    have hq := SlO.back hq HK.out
    obtain ⟨⟨v, rfl, hv, ho⟩, hk8⟩ := hq
    have HV := Lib.hid hv
    have HO := Lib.hid ho
    clear hv ho
    go_wp2_with fail
    refine bodyPost_ret (v := .tuple #[v, .bool R.isSome]) (by simp [results, Tryz.results143, go_sem]) rfl ?_
    exact ⟨⟨_, rfl, HV.out, HO.out⟩, hk8⟩
  by_cases hq : s0 = [105, 102]
  · subst hq
    cases q : (s4 == [103, 111, 116, 111])
    case false =>
      have hE : oneW [[105, 102], s1, s2, s3, s4, s5] = assignS [[105, 102], s1, s2, s3, s4, s5] := by rw [oneW6]; exact (if_pos (by rfl)).trans (if_neg (by rw [q]; decide))
      rw [hE]
      obtain ⟨R, hR⟩ : ∃ R, assignS [[105, 102], s1, s2, s3, s4, s5] = R := ⟨_, rfl⟩
      rw [hR]
      go_enter Tryz.func143, Tryz.ntmps143
      go_wp2_with fail
      refine (words_any s w hl).mono ?_
      rintro e w1 ⟨ov, rfl, hs, hk1⟩
      rw [hw] at hs
      obtain ⟨hov, hlen0⟩ | ⟨g, cap, rfl, hcap, hlt⟩ := Sl.shape hs
      · simp at hlen0
      have c0 := Strs.cell hs (i := 0) (x := [105, 102]) rfl
      have c1 := Strs.cell hs (i := 1) (x := s1) rfl
      have c2 := Strs.cell hs (i := 2) (x := s2) rfl
      have c3 := Strs.cell hs (i := 3) (x := s3) rfl
      have c4 := Strs.cell hs (i := 4) (x := s4) rfl
      have c5 := Strs.cell hs (i := 5) (x := s5) rfl
      have HK := Lib.hid hk1
      clear hk1 hcap
      have HS := Lib.hid hs
      clear hs
      have HQ := assign_any [[105, 102], s1, s2, s3, s4, s5] g cap w1 HS.out (by simp) HLEN.out
      rw [hR] at HQ
      have HQ := Lib.hid HQ
      go_wp2_with fail
      refine HQ.out.mono ?_
      rintro e w8 hq
      have hq := SlO.back hq HK.out
      obtain ⟨⟨v, rfl, hv, ho⟩, hk8⟩ := hq
      have HV := Lib.hid hv
      have HO := Lib.hid ho
      clear hv ho
      go_wp2_with fail
      refine bodyPost_ret (v := .tuple #[v, .bool R.isSome]) (by simp [results, Tryz.results143, go_sem]) rfl ?_
      exact ⟨⟨_, rfl, HV.out, HO.out⟩, hk8⟩
    case true =>
      have hE : oneW [[105, 102], s1, s2, s3, s4, s5] = compareS s1 s2 s3 s5 := by rw [oneW6]; exact (if_pos (by rfl)).trans (if_pos q)
      rw [hE]
      obtain ⟨R, hR⟩ : ∃ R, compareS s1 s2 s3 s5 = R := ⟨_, rfl⟩
      rw [hR]
      go_enter Tryz.func143, Tryz.ntmps143
      go_wp2_with fail
      refine (words_any s w hl).mono ?_
      rintro e w1 ⟨ov, rfl, hs, hk1⟩
      rw [hw] at hs
      obtain ⟨hov, hlen0⟩ | ⟨g, cap, rfl, hcap, hlt⟩ := Sl.shape hs
      · simp at hlen0
      have c0 := Strs.cell hs (i := 0) (x := [105, 102]) rfl
      have c1 := Strs.cell hs (i := 1) (x := s1) rfl
      have c2 := Strs.cell hs (i := 2) (x := s2) rfl
      have c3 := Strs.cell hs (i := 3) (x := s3) rfl
      have c4 := Strs.cell hs (i := 4) (x := s4) rfl
      have c5 := Strs.cell hs (i := 5) (x := s5) rfl
      have HK := Lib.hid hk1
      clear hk1 hcap
      have HS := Lib.hid hs
      clear hs
      have HQ := compare_any [105, 102] s1 s2 s3 s4 s5 g cap w1 HS.out hl1 hl3 hl5
      rw [hR] at HQ
      have HQ := Lib.hid HQ
      go_wp2_with fail
      refine HQ.out.mono ?_
      rintro e w8 hq
      have hq := SlO.back hq HK.out
      obtain ⟨⟨v, rfl, hv, ho⟩, hk8⟩ := hq
      have HV := Lib.hid hv
      have HO := Lib.hid ho
      clear hv ho
      go_wp2_with fail
      refine bodyPost_ret (v := .tuple #[v, .bool R.isSome]) (by simp [results, Tryz.results143, go_sem]) rfl ?_
      exact ⟨⟨_, rfl, HV.out, HO.out⟩, hk8⟩
  have q1 : (s0 == [103, 111, 116, 111]) = false := beq_eq_false_iff_ne.2 ‹¬ s0 = [103, 111, 116, 111]›
  have q2 : (s0 == [99, 97, 108, 108]) = false := beq_eq_false_iff_ne.2 ‹¬ s0 = [99, 97, 108, 108]›
  have q3 : (s0 == [105, 102]) = false := beq_eq_false_iff_ne.2 ‹¬ s0 = [105, 102]›
  have hE : oneW [s0, s1, s2, s3, s4, s5] = assignS [s0, s1, s2, s3, s4, s5] := by rw [oneW6, if_neg (by rw [q3]; decide)]
  rw [hE]
  obtain ⟨R, hR⟩ : ∃ R, assignS [s0, s1, s2, s3, s4, s5] = R := ⟨_, rfl⟩
  rw [hR]
  go_enter Tryz.func143, Tryz.ntmps143
  go_wp2_with fail
  refine (words_any s w hl).mono ?_
  rintro e w1 ⟨ov, rfl, hs, hk1⟩
  rw [hw] at hs
  obtain ⟨hov, hlen0⟩ | ⟨g, cap, rfl, hcap, hlt⟩ := Sl.shape hs
  · simp at hlen0
  have c0 := Strs.cell hs (i := 0) (x := s0) rfl
  have c1 := Strs.cell hs (i := 1) (x := s1) rfl
  have c2 := Strs.cell hs (i := 2) (x := s2) rfl
  have c3 := Strs.cell hs (i := 3) (x := s3) rfl
  have c4 := Strs.cell hs (i := 4) (x := s4) rfl
  have c5 := Strs.cell hs (i := 5) (x := s5) rfl
  have HK := Lib.hid hk1
  clear hk1 hcap
  have HS := Lib.hid hs
  clear hs
  have HQ := assign_any [s0, s1, s2, s3, s4, s5] g cap w1 HS.out (by simp) HLEN.out
  rw [hR] at HQ
  have HQ := Lib.hid HQ
  go_wp2_with fail
  refine HQ.out.mono ?_
  rintro e w8 hq
  have hq := SlO.back hq HK.out
  obtain ⟨⟨v, rfl, hv, ho⟩, hk8⟩ := hq
  have HV := Lib.hid hv
  have HO := Lib.hid ho
  clear hv ho
  go_wp2_with fail
  refine bodyPost_ret (v := .tuple #[v, .bool R.isSome]) (by simp [results, Tryz.results143, go_sem]) rfl ?_
  exact ⟨⟨_, rfl, HV.out, HO.out⟩, hk8⟩
set_option maxHeartbeats 8000000 in
set_option maxRecDepth 100000 in
theorem oneO (s s0 : List UInt8) (ws : List (List UInt8)) (w : World) (hl : s.length ≤ 1000000) (hx : (s == [101, 120, 105, 116]) = false) (hw : wordsS s = ws) (hs0 : ws[0]? = some s0) (h2 : ws.length ≠ 2) (h5 : ws.length ≠ 5) (h6 : ws.length ≠ 6) :
    Calls Tryz.prog 143 #[stV s] w fun e w' => SlO w (assignS ws) e w' := by
  have hsm : ∀ x ∈ ws, x.length ≤ 1000000 := fun x hx => by
    rw [← hw] at hx
    have := wordsG_small [] s x hx
    simp at this
    omega
  have hne : ws ≠ [] := fun h => by subst h; cases hs0
  have hpos : 0 < ws.length := List.length_pos_iff.2 hne
  obtain ⟨R, hR⟩ : ∃ R, assignS ws = R := ⟨_, rfl⟩
  rw [hR]
  have HW := Lib.hid (fun g cap w1 hs => assign_any ws g cap w1 hs hne hsm)
  rw [hR] at HW
  clear hsm hne
  have hd2 : ((ws.length : Int) == 2) = false := beq_eq_false_iff_ne.2 (by omega)
  have hd5 : ((ws.length : Int) == 5) = false := beq_eq_false_iff_ne.2 (by omega)
  have hd6 : ((ws.length : Int) == 6) = false := beq_eq_false_iff_ne.2 (by omega)
  clear h2 h5 h6
  by_cases hq : s0 = [103, 111, 116, 111]
  · subst hq
    go_enter Tryz.func143, Tryz.ntmps143
    go_wp2_with fail
    refine (words_any s w hl).mono ?_
    rintro e w1 ⟨ov, rfl, hs, hk1⟩
    rw [hw] at hs
    obtain ⟨hov, hlen0⟩ | ⟨g, cap, rfl, hcap, hlt⟩ := Sl.shape hs
    · simp at hlen0; subst hlen0; simp at hpos
    rw [List.length_map] at hs
    rw [List.length_map]
    have c0 := Strs.cell hs (i := 0) (x := [103, 111, 116, 111]) hs0
    have HC := Lib.hid (HW.out g cap w1 hs)
    have HK := Lib.hid hk1
    clear hk1 hcap hs hs0 hw HW
    generalize ws.length = n at *
    go_wp2_with fail
    refine HC.out.mono ?_
    rintro e w8 hq
    have hq := SlO.back hq HK.out
    obtain ⟨⟨v, rfl, hv, ho⟩, hk8⟩ := hq
    have HV := Lib.hid hv
    have HO := Lib.hid ho
    clear hv ho
    go_wp2_with fail
    refine bodyPost_ret (v := .tuple #[v, .bool R.isSome]) (by simp [results, Tryz.results143, go_sem]) rfl ?_
    exact ⟨⟨_, rfl, HV.out, HO.out⟩, hk8⟩
  by_cases hq : s0 = [99, 97, 108, 108]
  · subst hq
    go_enter Tryz.func143, Tryz.ntmps143
    go_wp2_with fail
    refine (words_any s w hl).mono ?_
    rintro e w1 ⟨ov, rfl, hs, hk1⟩
    rw [hw] at hs
    obtain ⟨hov, hlen0⟩ | ⟨g, cap, rfl, hcap, hlt⟩ := Sl.shape hs
    · simp at hlen0; subst hlen0; simp at hpos
    rw [List.length_map] at hs
    rw [List.length_map]
    have c0 := Strs.cell hs (i := 0) (x := [99, 97, 108, 108]) hs0
    have HC := Lib.hid (HW.out g cap w1 hs)
    have HK := Lib.hid hk1
    clear hk1 hcap hs hs0 hw HW
    generalize ws.length = n at *
    go_wp2_with fail
    refine HC.out.mono ?_
    rintro e w8 hq
    have hq := SlO.back hq HK.out
    obtain ⟨⟨v, rfl, hv, ho⟩, hk8⟩ := hq
    have HV := Lib.hid hv
    have HO := Lib.hid ho
    clear hv ho
    go_wp2_with fail
    refine bodyPost_ret (v := .tuple #[v, .bool R.isSome]) (by simp [results, Tryz.results143, go_sem]) rfl ?_
    exact ⟨⟨_, rfl, HV.out, HO.out⟩, hk8⟩
  by_cases hq : s0 = [105, 102]
  · subst hq
    go_enter Tryz.func143, Tryz.ntmps143
    go_wp2_with fail
    refine (words_any s w hl).mono ?_
    rintro e w1 ⟨ov, rfl, hs, hk1⟩
    rw [hw] at hs
    obtain ⟨hov, hlen0⟩ | ⟨g, cap, rfl, hcap, hlt⟩ := Sl.shape hs
    · simp at hlen0; subst hlen0; simp at hpos
    rw [List.length_map] at hs
    rw [List.length_map]
    have c0 := Strs.cell hs (i := 0) (x := [105, 102]) hs0
    have HC := Lib.hid (HW.out g cap w1 hs)
    have HK := Lib.hid hk1
    clear hk1 hcap hs hs0 hw HW
    generalize ws.length = n at *
    go_wp2_with fail
    refine HC.out.mono ?_
    rintro e w8 hq
    have hq := SlO.back hq HK.out
    obtain ⟨⟨v, rfl, hv, ho⟩, hk8⟩ := hq
    have HV := Lib.hid hv
    have HO := Lib.hid ho
    clear hv ho
    go_wp2_with fail
    refine bodyPost_ret (v := .tuple #[v, .bool R.isSome]) (by simp [results, Tryz.results143, go_sem]) rfl ?_
    exact ⟨⟨_, rfl, HV.out, HO.out⟩, hk8⟩
  have q1 : (s0 == [103, 111, 116, 111]) = false := beq_eq_false_iff_ne.2 ‹¬ s0 = [103, 111, 116, 111]›
  have q2 : (s0 == [99, 97, 108, 108]) = false := beq_eq_false_iff_ne.2 ‹¬ s0 = [99, 97, 108, 108]›
  have q3 : (s0 == [105, 102]) = false := beq_eq_false_iff_ne.2 ‹¬ s0 = [105, 102]›
  go_enter Tryz.func143, Tryz.ntmps143
  go_wp2_with fail
  refine (words_any s w hl).mono ?_
  rintro e w1 ⟨ov, rfl, hs, hk1⟩
  rw [hw] at hs
  obtain ⟨hov, hlen0⟩ | ⟨g, cap, rfl, hcap, hlt⟩ := Sl.shape hs
  · simp at hlen0; subst hlen0; simp at hpos
  rw [List.length_map] at hs
  rw [List.length_map]
  have c0 := Strs.cell hs (i := 0) (x := s0) hs0
  have HC := Lib.hid (HW.out g cap w1 hs)
  have HK := Lib.hid hk1
  clear hk1 hcap hs hs0 hw HW
  generalize ws.length = n at *
  go_wp2_with fail
  refine HC.out.mono ?_
  rintro e w8 hq
  have hq := SlO.back hq HK.out
  obtain ⟨⟨v, rfl, hv, ho⟩, hk8⟩ := hq
  have HV := Lib.hid hv
  have HO := Lib.hid ho
  clear hv ho
  go_wp2_with fail
  refine bodyPost_ret (v := .tuple #[v, .bool R.isSome]) (by simp [results, Tryz.results143, go_sem]) rfl ?_
  exact ⟨⟨_, rfl, HV.out, HO.out⟩, hk8⟩
theorem line_any (s : List UInt8) (w : World) (hl : s.length ≤ 1000000) : Calls Tryz.prog 143 #[stV s] w fun e w' => SlO w (oneS s) e w' := by
  unfold oneS
  cases hx : (s == [101, 120, 105, 116])
  case true =>
    rw [if_pos rfl]
    exact one_exit s w hl hx
  case false =>
  rw [if_neg Bool.false_ne_true]
  have hpos := wordsG_pos [] s
  have hpos : 1 ≤ (wordsS s).length := hpos
  obtain ⟨ws, hw⟩ : ∃ ws, wordsS s = ws := ⟨_, rfl⟩
  rw [hw] at hpos ⊢
  match ws, hw, hpos with
  | [s0], hw, _ => exact oneO s s0 _ w hl hx hw rfl (by simp) (by simp) (by simp)
  | [s0, s1], hw, _ => exact one2 s s0 s1 w hl hx hw
  | [s0, s1, s2], hw, _ => exact oneO s s0 _ w hl hx hw rfl (by simp) (by simp) (by simp)
  | [s0, s1, s2, s3], hw, _ => exact oneO s s0 _ w hl hx hw rfl (by simp) (by simp) (by simp)
  | [s0, s1, s2, s3, s4], hw, _ => exact one5 s s0 s1 s2 s3 s4 w hl hx hw
  | [s0, s1, s2, s3, s4, s5], hw, _ => exact one6 s s0 s1 s2 s3 s4 s5 w hl hx hw
  | s0 :: s1 :: s2 :: s3 :: s4 :: s5 :: s6 :: r, hw, _ => exact oneO s s0 _ w hl hx hw rfl (by simp) (by simp) (by simp)

end Go.Proofs.YtdchmelgaljpfaaGreat


import Derived.Test.YtahabogjfcdjkaaGreatOb
import Derived.Laws.EntriesVeiled
set_option linter.unusedSimpArgs false
set_option linter.unusedVariables false
namespace Go.Proofs.YtahabogjfcdjkaaGreat
open Go.RowKit

def kindB1 (d : Df) : Bool := (d.key == 4) && valB d
def kindB2 (d : Df) : Bool := inB d.key 1 16 && valB d
def kindB3 (d : Df) : Bool := (d.key == 4) && (d.value == 4) && inB d.entries 1 64 && bareB d
/-- may it be? (no ring, no type) -/
def defB (d : Df) : Bool := if d.kind = 1 then kindB1 d else if d.kind = 2 then kindB2 d else if d.kind = 3 then kindB3 d else false

set_option maxHeartbeats 1000000 in
theorem kind1_any (d : Df) (ty : Value) (w : World) (h0 : d.type = 0) : Calls Tryz.prog 45 #[.agg d.cells, ty] w fun e w' => e = .returned (.bool (kindB1 d)) ∧ Kept (fun _ => False) w w' := by
  have hv : kindB1 d = ((d.key == 4) && valB d) := rfl
  have hc : d.cells = #[.int .i64 d.kind, .int .i64 d.key, .int .i64 d.value, .int .i64 d.entries, .bool d.timer, .int .i64 d.type] := rfl
  have hval := valued_any d ty (w.alloc (.cells d.cells 23)) h0
  rw [hc] at hval ⊢
  generalize kindB1 d = b at *
  have HV := Lib.hid hv
  have HVAL := Lib.hid hval
  clear hv hc hval h0
  cases h1 : (d.key == 4)
  · go_enter Tryz.func45, Tryz.ntmps45
    go_wp2_with fail
    go_ret
    exact ⟨by rw [HV.out, h1]; rfl, Kept.alloc (Kept.refl _ w) _⟩
  · go_enter Tryz.func45, Tryz.ntmps45
    go_wp2_with fail
    refine HVAL.out.mono ?_
    rintro e w1 ⟨rfl, hk⟩
    go_wp2_with fail
    go_ret
    exact ⟨by rw [HV.out, h1]; rfl, Kept.trans (Kept.alloc (Kept.refl _ w) _) hk (fun _ _ h => h)⟩

set_option maxHeartbeats 1000000 in
theorem kind2_any (d : Df) (ty : Value) (w : World) (h0 : d.type = 0) : Calls Tryz.prog 47 #[.agg d.cells, ty] w fun e w' => e = .returned (.bool (kindB2 d)) ∧ Kept (fun _ => False) w w' := by
  have hv : kindB2 d = (inB d.key 1 16 && valB d) := rfl
  have hc : d.cells = #[.int .i64 d.kind, .int .i64 d.key, .int .i64 d.value, .int .i64 d.entries, .bool d.timer, .int .i64 d.type] := rfl
  have hval := valued_any d ty (w.alloc (.cells d.cells 23)) h0
  rw [hc] at hval ⊢
  generalize kindB2 d = b at *
  have HV := Lib.hid hv
  have HVAL := Lib.hid hval
  clear hv hc hval h0
  cases h1 : inB d.key 1 16
  · go_enter Tryz.func47, Tryz.ntmps47
    go_wp2_with (go_at_call 48; refine (in_any _ _ _ _).mono ?_; rintro e w1 ⟨rfl, rfl⟩; rw [h1])
    go_ret
    exact ⟨by rw [HV.out, h1]; rfl, Kept.alloc (Kept.refl _ w) _⟩
  · go_enter Tryz.func47, Tryz.ntmps47
    go_wp2_with (go_at_call 48; refine (in_any _ _ _ _).mono ?_; rintro e w1 ⟨rfl, rfl⟩; rw [h1])
    refine HVAL.out.mono ?_
    rintro e w1 ⟨rfl, hk⟩
    go_wp2_with fail
    go_ret
    exact ⟨by rw [HV.out, h1]; rfl, Kept.trans (Kept.alloc (Kept.refl _ w) _) hk (fun _ _ h => h)⟩

set_option maxHeartbeats 1000000 in
theorem kind3_any (d : Df) (ty : Value) (w : World) : Calls Tryz.prog 49 #[.agg d.cells, ty] w fun e w' => e = .returned (.bool (kindB3 d)) ∧ Kept (fun _ => False) w w' := by
  have hv : kindB3 d = ((d.key == 4) && (d.value == 4) && inB d.entries 1 64 && bareB d) := rfl
  have hc : d.cells = #[.int .i64 d.kind, .int .i64 d.key, .int .i64 d.value, .int .i64 d.entries, .bool d.timer, .int .i64 d.type] := rfl
  have hbare := bare_any d (w.alloc (.cells d.cells 23))
  rw [hc] at hbare ⊢
  generalize kindB3 d = b at *
  have HV := Lib.hid hv
  have HB := Lib.hid hbare
  clear hv hc hbare
  cases h1 : (d.key == 4)
  · go_enter Tryz.func49, Tryz.ntmps49
    go_wp2_with fail
    go_ret
    exact ⟨by rw [HV.out, h1]; rfl, Kept.alloc (Kept.refl _ w) _⟩
  · cases h2 : (d.value == 4)
    · go_enter Tryz.func49, Tryz.ntmps49
      go_wp2_with fail
      go_ret
      exact ⟨by rw [HV.out, h1, h2]; rfl, Kept.alloc (Kept.refl _ w) _⟩
    · cases h3 : inB d.entries 1 64
      · go_enter Tryz.func49, Tryz.ntmps49
        go_wp2_with (go_at_call 48; refine (in_any _ _ _ _).mono ?_; rintro e w1 ⟨rfl, rfl⟩; rw [h3])
        go_ret
        exact ⟨by rw [HV.out, h1, h2, h3]; rfl, Kept.alloc (Kept.refl _ w) _⟩
      · go_enter Tryz.func49, Tryz.ntmps49
        go_wp2_with (go_at_call 48; refine (in_any _ _ _ _).mono ?_; rintro e w1 ⟨rfl, rfl⟩; rw [h3])
        refine HB.out.mono ?_
        rintro e w1 ⟨rfl, hk⟩
        go_wp2_with fail
        go_ret
        exact ⟨by rw [HV.out, h1, h2, h3]; rfl, Kept.trans (Kept.alloc (Kept.refl _ w) _) hk (fun _ _ h => h)⟩

theorem inB_out {n : Int} (h : inB n 1 4 = true) (h4 : n ≠ 4) : n = 1 ∨ n = 2 ∨ n = 3 := by
  unfold inB at h
  simp at h
  omega

set_option maxHeartbeats 2000000 in
set_option maxRecDepth 100000 in
theorem def_any (d : Df) (ty : Value) (w : World) (h0 : d.type = 0) (h4 : d.kind ≠ 4) : Calls Tryz.prog 18 #[.agg d.cells, ty] w fun e w' => e = .returned (.int .i64 (if defB d then 0 else 51)) ∧ Kept (fun _ => False) w w' := by
  obtain ⟨kind, key, value, entries, timer, type⟩ := d
  simp only at h0 h4
  subst h0
  unfold Df.cells
  cases hin : inB kind 1 4
  · have hd : defB ⟨kind, key, value, entries, timer, 0⟩ = false := by
      unfold inB at hin
      simp at hin
      unfold defB
      simp only
      rw [if_neg (by omega), if_neg (by omega), if_neg (by omega)]
    rw [hd]
    go_enter Tryz.func18, Tryz.ntmps18
    go_wp2_with fail
    refine wp_region_mix0 [.w, .l, .k, .w, .w, .w, .l, .w, .l, .l, .w, .t, .w, .w] (by kernel_rfl) (by kernel_rfl) ?_
    repeat (first
      | (refine mix_w1 ?_; go_big_quiet_step (fail); refine wpQuiet_nil ?_)
      | (refine mix_l1 rfl ?_; go_big_quiet_step (fail); refine wpQuiet_nil ?_))
    refine mix_k rfl fun Q' hQ' => ?_
    go_wp2_with (go_at_call 48; refine (in_any _ _ _ _).mono ?_; rintro e w1 ⟨rfl, rfl⟩; rw [hin])
    refine hQ' _ _ rfl ?_
    clear hQ' Q'
    repeat (first
      | (refine mix_w1 ?_; go_big_quiet_step (fail); refine wpQuiet_nil ?_)
      | (refine mix_l1 rfl ?_; go_big_quiet_step (fail); refine wpQuiet_nil ?_))
    refine mix_t fun Q' hQ' => ?_
    go_wp2
    repeat (refine mix_w1 ?_; go_big_quiet_step (fail); refine wpQuiet_nil ?_)
    refine mix_nil ?_
    go_wp2
    go_ret
    exact ⟨rfl, (Kept.alloc (Kept.alloc (Kept.refl _ w) _) _).drew⟩
  rcases inB_out hin h4 with rfl | rfl | rfl
  · have hd : defB ⟨1, key, value, entries, timer, 0⟩ = kindB1 ⟨1, key, value, entries, timer, 0⟩ := rfl
    rw [hd]
    have hcon : ∀ W, Calls Tryz.prog 45 #[.agg #[.int .i64 1, .int .i64 key, .int .i64 value, .int .i64 entries, .bool timer, .int .i64 0], ty] W fun e w' => e = .returned (.bool (kindB1 ⟨1, key, value, entries, timer, 0⟩)) ∧ Kept (fun _ => False) W w' := fun W => kind1_any ⟨1, key, value, entries, timer, 0⟩ ty W rfl
    generalize kindB1 ⟨1, key, value, entries, timer, 0⟩ = b at *
    have HC := Lib.hid hcon
    clear hcon hd
    have hin : inB 1 1 4 = true := rfl
    go_enter Tryz.func18, Tryz.ntmps18
    go_wp2_with fail
    refine wp_region_mix0 [.w, .l, .k, .w, .w, .w, .l, .w, .l, .l, .w, .t, .w, .w] (by kernel_rfl) (by kernel_rfl) ?_
    repeat (first
      | (refine mix_w1 ?_; go_big_quiet_step (fail); refine wpQuiet_nil ?_)
      | (refine mix_l1 rfl ?_; go_big_quiet_step (fail); refine wpQuiet_nil ?_))
    refine mix_k rfl fun Q' hQ' => ?_
    go_wp2_with (go_at_call 48; refine (in_any _ _ _ _).mono ?_; rintro e w1 ⟨rfl, rfl⟩; rw [hin])
    refine hQ' _ _ rfl ?_
    clear hQ' Q'
    repeat (first
      | (refine mix_w1 ?_; go_big_quiet_step (fail); refine wpQuiet_nil ?_)
      | (refine mix_l1 rfl ?_; go_big_quiet_step (fail); refine wpQuiet_nil ?_))
    refine mix_t fun Q' hQ' => ?_
    go_wp2_with fail
    refine (HC.out _).mono ?_
    rintro e w1 ⟨rfl, hk⟩
    have hk1 : Kept (fun _ => False) w w1 := Kept.trans (Kept.alloc (Kept.alloc (Kept.refl _ w) _) _).drew hk (fun _ _ h => h)
    clear hk
    cases b
    all_goals
      go_wp2
      repeat (refine mix_w1 ?_; go_big_quiet_step (fail); refine wpQuiet_nil ?_)
      refine mix_nil ?_
      go_wp2
      go_ret
      exact ⟨rfl, hk1⟩
  · have hd : defB ⟨2, key, value, entries, timer, 0⟩ = kindB2 ⟨2, key, value, entries, timer, 0⟩ := rfl
    rw [hd]
    have hcon : ∀ W, Calls Tryz.prog 47 #[.agg #[.int .i64 2, .int .i64 key, .int .i64 value, .int .i64 entries, .bool timer, .int .i64 0], ty] W fun e w' => e = .returned (.bool (kindB2 ⟨2, key, value, entries, timer, 0⟩)) ∧ Kept (fun _ => False) W w' := fun W => kind2_any ⟨2, key, value, entries, timer, 0⟩ ty W rfl
    generalize kindB2 ⟨2, key, value, entries, timer, 0⟩ = b at *
    have HC := Lib.hid hcon
    clear hcon hd
    have hin : inB 2 1 4 = true := rfl
    go_enter Tryz.func18, Tryz.ntmps18
    go_wp2_with fail
    refine wp_region_mix0 [.w, .l, .k, .w, .w, .w, .l, .w, .l, .l, .w, .t, .w, .w] (by kernel_rfl) (by kernel_rfl) ?_
    repeat (first
      | (refine mix_w1 ?_; go_big_quiet_step (fail); refine wpQuiet_nil ?_)
      | (refine mix_l1 rfl ?_; go_big_quiet_step (fail); refine wpQuiet_nil ?_))
    refine mix_k rfl fun Q' hQ' => ?_
    go_wp2_with (go_at_call 48; refine (in_any _ _ _ _).mono ?_; rintro e w1 ⟨rfl, rfl⟩; rw [hin])
    refine hQ' _ _ rfl ?_
    clear hQ' Q'
    repeat (first
      | (refine mix_w1 ?_; go_big_quiet_step (fail); refine wpQuiet_nil ?_)
      | (refine mix_l1 rfl ?_; go_big_quiet_step (fail); refine wpQuiet_nil ?_))
    refine mix_t fun Q' hQ' => ?_
    go_wp2_with fail
    refine (HC.out _).mono ?_
    rintro e w1 ⟨rfl, hk⟩
    have hk1 : Kept (fun _ => False) w w1 := Kept.trans (Kept.alloc (Kept.alloc (Kept.refl _ w) _) _).drew hk (fun _ _ h => h)
    clear hk
    cases b
    all_goals
      go_wp2
      repeat (refine mix_w1 ?_; go_big_quiet_step (fail); refine wpQuiet_nil ?_)
      refine mix_nil ?_
      go_wp2
      go_ret
      exact ⟨rfl, hk1⟩
  · have hd : defB ⟨3, key, value, entries, timer, 0⟩ = kindB3 ⟨3, key, value, entries, timer, 0⟩ := rfl
    rw [hd]
    have hcon : ∀ W, Calls Tryz.prog 49 #[.agg #[.int .i64 3, .int .i64 key, .int .i64 value, .int .i64 entries, .bool timer, .int .i64 0], ty] W fun e w' => e = .returned (.bool (kindB3 ⟨3, key, value, entries, timer, 0⟩)) ∧ Kept (fun _ => False) W w' := fun W => kind3_any ⟨3, key, value, entries, timer, 0⟩ ty W
    generalize kindB3 ⟨3, key, value, entries, timer, 0⟩ = b at *
    have HC := Lib.hid hcon
    clear hcon hd
    have hin : inB 3 1 4 = true := rfl
    go_enter Tryz.func18, Tryz.ntmps18
    go_wp2_with fail
    refine wp_region_mix0 [.w, .l, .k, .w, .w, .w, .l, .w, .l, .l, .w, .t, .w, .w] (by kernel_rfl) (by kernel_rfl) ?_
    repeat (first
      | (refine mix_w1 ?_; go_big_quiet_step (fail); refine wpQuiet_nil ?_)
      | (refine mix_l1 rfl ?_; go_big_quiet_step (fail); refine wpQuiet_nil ?_))
    refine mix_k rfl fun Q' hQ' => ?_
    go_wp2_with (go_at_call 48; refine (in_any _ _ _ _).mono ?_; rintro e w1 ⟨rfl, rfl⟩; rw [hin])
    refine hQ' _ _ rfl ?_
    clear hQ' Q'
    repeat (first
      | (refine mix_w1 ?_; go_big_quiet_step (fail); refine wpQuiet_nil ?_)
      | (refine mix_l1 rfl ?_; go_big_quiet_step (fail); refine wpQuiet_nil ?_))
    refine mix_t fun Q' hQ' => ?_
    go_wp2_with fail
    refine (HC.out _).mono ?_
    rintro e w1 ⟨rfl, hk⟩
    have hk1 : Kept (fun _ => False) w w1 := Kept.trans (Kept.alloc (Kept.alloc (Kept.refl _ w) _) _).drew hk (fun _ _ h => h)
    clear hk
    cases b
    all_goals
      go_wp2
      repeat (refine mix_w1 ?_; go_big_quiet_step (fail); refine wpQuiet_nil ?_)
      refine mix_nil ?_
      go_wp2
      go_ret
      exact ⟨rfl, hk1⟩

end Go.Proofs.YtahabogjfcdjkaaGreat

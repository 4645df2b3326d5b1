import Derived.Test.YtaehmaocibimeaaRC
import Derived.Deep.CutBlock
set_option linter.unusedSimpArgs false
set_option linter.unusedVariables false
namespace Go.Proofs.Ytaehmaocibimeaa
open Go.RowKit

theorem na3 : ∀ w, (isAgg 3).run Try.prog w = .ok false w := fun w => by kernel_rfl
theorem na31 : ∀ w, (isAgg 31).run Try.prog w = .ok false w := fun w => by kernel_rfl

set_option maxHeartbeats 400000 in
theorem startN (p m : Nat) (v : Value) (S : WS) (id after : Int) (w : World) (h : IsW w p m v S) (hl : lookI S.all id = none) :
    Calls Try.prog 10 #[.pointer (some ⟨p, 0, none⟩), .int .i64 id, .int .u64 after] w fun e w' => e = .returned (.int .i64 120) ∧ w = w' := by
  have hp := h.blk.lt
  have hb := h.blk.cell
  have hlk := h.map.look2 (P := Try.prog) Try.underlying62 Try.underlying3 zero67 id
  rw [look_ptrs, hl] at hlk
  go_enter Try.func10, Try.ntmps10
  go_wp2
  go_ret
  exact ⟨rfl, rfl⟩

/-- what the switch leaves -/
def Meet (w0 : World) (p m q i : Nat) (s7 : Value) (wx : World) : Prop := ∃ v S u R, s7 = .bool true ∧ Pl w0 wx p m v S q u R ∧ Rl S R ∧ S.starts ≤ (i : Int) + 1 ∧ R.l.length ≤ i + 1

set_option maxHeartbeats 4000000 in
set_option maxRecDepth 100000 in
theorem plays_walk (A : Option Addr) (n c : Nat) (f : Nat → St) (w : World) (hA : InSt w A n f) (hn : n ≤ 100) :
    Calls Try.prog 5 #[.slice A n c] w fun e w' => e = .returned (.bool true) ∧ Below w.heap.size w w' := by
  go_enter Try.func5, Try.ntmps5
  go_wp2_with fail
  refine (known_any w).mono ?_
  rintro e w1 ⟨rfl, hk1⟩
  go_wp2_with fail
  refine (new_one w w1 hk1).mono ?_
  rintro e w2 ⟨p, m, rfl, hT⟩
  clear hk1
  go_wp2_with fail
  refine (newR_any w2 w2 (Kept.refl _ w2)).mono ?_
  rintro e w3 ⟨q, rfl, hq, hR3, hk3⟩
  have hP3 : Pl w w3 p m (.slice none 0 0) ⟨0, 0, [], []⟩ q (.slice none 0 0) ⟨0, [], 0⟩ := by
    have hs := hT.kept.size
    have hfr : ∀ k, fpR q (.slice none 0 0) k → k = q := fun k hk => by
      rcases hk with h | h
      · exact h
      · simp [Value.ownBlock] at h
    exact ⟨hT.other hk3 (fun _ _ h => h.elim), hR3, fun k hk hr => by
      have := hT.isw.fp_lt hk
      have := hfr k hr
      omega, fun k hk => by have := hfr k hk; omega⟩
  clear hT hR3 hk3 hq
  go_wp2_with fail
  go_loopw [5] (fun iv wr => ∃ (i : Nat) (v : Value) (S : WS) (u : Value) (R : RS), iv = .int .i64 i ∧ i ≤ n ∧ Pl w wr p m v S q u R ∧ Rl S R ∧ S.starts ≤ i ∧ R.l.length ≤ i) (fun iv _ => n - (intOf iv).toNat)
  case atStart => exact ⟨0, _, _, _, _, rfl, Nat.zero_le _, hP3, Rl.empty, by show (0 : Int) ≤ _; omega, Nat.le_refl _⟩
  case round =>
    clear hP3
    obtain ⟨i, v, S, u, R, rfl, hi, hP, hRl, hst, hln⟩ := hrel
    have HRL := Lib.hid hRl
    clear hRl
    by_cases hlt : i < n
    case neg =>
      obtain rfl : i = n := by omega
      go_wp2_with fail
      go_ret
      exact ⟨rfl, hP.one.kept.below (Nat.le_refl _) (fun _ _ h => h)⟩
    case pos =>
      obtain ⟨b, off, rfl, hb, hcell⟩ := hA.1 (by omega)
      have htr := hA.2 i
      have hc : ∀ k, k < 4 → wr.cell? ⟨b, off + i * 4 + k, none⟩ = (f i).cells[k]? := fun k hk => by
        rw [hP.one.kept.cell (p := ⟨b, off + i * 4 + k, none⟩) hb (fun h => h)]
        exact hcell i hlt k hk
      generalize f i = s at *
      have c0 := hc 0 (by omega)
      have c1 := hc 1 (by omega)
      have c2 := hc 2 (by omega)
      have c3 := hc 3 (by omega)
      simp only [St.cells, Nat.add_zero, List.getElem?_cons_zero, List.getElem?_cons_succ] at c0 c1 c2 c3
      clear hc hcell
      go_upto_block 2 with fail
      have hL : Lo w (wr.alloc (.cells #[.int .i64 s.what, .int .i64 s.id, .int .i64 s.n, .int .u64 s.t] 50)) p m v S q u R wr.heap.size s :=
        ⟨hP.quiet (Kept.alloc (Kept.refl _ wr) _), Blk.new wr 50 _, fun e => by have := hP.one.isw.fp_lt e; omega, fun e => by have := hP.isr.fp_lt e; omega⟩
      have hgx : w.heap.size ≤ wr.heap.size := hP.one.kept.size
      clear hP c0 c1 c2 c3
      generalize hgg : wr.heap.size = g at *
      generalize hww : wr.alloc (.cells #[.int .i64 s.what, .int .i64 s.id, .int .i64 s.n, .int .u64 s.t] 50) = wa at *
      clear hgg hww
      go_cut [7] (fun s7 wx => Meet w p m q i s7 wx)
      case first =>
        have hbc := hL.blk.cell
        simp only [St.cells] at hbc
        cases e0 : (s.what == 0)
        case true =>
          as_aux_lemma =>
            cases hp : posR R.l s.id
            case none =>
              go_wp2_with fail
              have hL0 := hL.drew
              refine wp_region_mix [.w, .w, .l, .k, .w, .w, .l, .t, .w, .t] (by kernel_rfl) (by kernel_rfl) (fun w' => Blk w' g 50 s.cells.toArray) ?_
              repeat (refine mix_w1 ?_; go_big_quiet_step (fail); refine wpQuiet_nil ?_)
              refine mix_load1 hL0.blk rfl 3 (.tmp 76) rfl na3 ⟨g, 1, none⟩ (.int .i64 s.id) rfl (fun w' hw' => by have h9 := Blk.cell hw' 1; exact h9) ?_
              simp only [Act.put, List.setIfInBounds_toArray, List.set_cons_succ, List.set_cons_zero]
              refine mix_k (by exact hL0.blk) fun Q' hQ' => ?_
              go_wp2_with fail
              refine (stp_init p m v S s.id _ hL0.pl.one.isw (HRL.out.lacks hp)).mono ?_
              rintro e w4 ⟨rfl, g4, hS4⟩
              have hL4 : Lo w w4 p m v _ q u R g s := hL0.stepW hS4
              go_wp2_with fail
              refine hQ' _ _ hL4.blk ?_
              clear hQ' Q'
              repeat (refine mix_w1 ?_; go_big_quiet_step (fail); refine wpQuiet_nil ?_)
              refine mix_load1 hL4.blk rfl 3 (.tmp 80) rfl na3 ⟨g, 1, none⟩ (.int .i64 s.id) rfl (fun w' hw' => by have h9 := Blk.cell hw' 1; exact h9) ?_
              simp only [Act.put, List.setIfInBounds_toArray, List.set_cons_succ, List.set_cons_zero]
              refine mix_t fun Q' hQ' => ?_
              go_wp2_with fail
              refine (initR_ok q u R s.id _ hL4.pl.isr hp (by omega)).mono ?_
              rintro e w5 ⟨rfl, u5, hS5⟩
              go_wp2_with fail
              repeat (refine mix_w1 ?_; go_big_quiet_step (fail); refine wpQuiet_nil ?_)
              refine mix_t fun Q' hQ' => ?_
              go_wp2
              refine mix_done ?_
              go_wp2_with fail
              go_meet
              exact ⟨_, _, _, _, rfl, (hL4.stepR hS5).pl, HRL.out.init hp g4, by show S.starts ≤ _; omega, by simp; omega⟩
            case some k =>
              go_wp2_with fail
              have hL0 := hL.drew
              refine wp_region_mix [.w, .w, .l, .k, .w, .w, .l, .t, .w, .t] (by kernel_rfl) (by kernel_rfl) (fun w' => Blk w' g 50 s.cells.toArray) ?_
              repeat (refine mix_w1 ?_; go_big_quiet_step (fail); refine wpQuiet_nil ?_)
              refine mix_load1 hL0.blk rfl 3 (.tmp 76) rfl na3 ⟨g, 1, none⟩ (.int .i64 s.id) rfl (fun w' hw' => by have h9 := Blk.cell hw' 1; exact h9) ?_
              simp only [Act.put, List.setIfInBounds_toArray, List.set_cons_succ, List.set_cons_zero]
              obtain ⟨t, gt, ht, hlr, hid, hls⟩ := HRL.out.has hp
              refine mix_k (by exact hL0.blk) fun Q' hQ' => ?_
              go_wp2_with fail
              refine (init_has p m v S s.id _ hL0.pl.one.isw hls).mono ?_
              rintro e w4 ⟨rfl, rfl⟩
              have hL4 : Lo w _ p m v S q u R g s := hL0
              go_wp2_with fail
              refine hQ' _ _ hL4.blk ?_
              clear hQ' Q'
              repeat (refine mix_w1 ?_; go_big_quiet_step (fail); refine wpQuiet_nil ?_)
              refine mix_load1 hL4.blk rfl 3 (.tmp 80) rfl na3 ⟨g, 1, none⟩ (.int .i64 s.id) rfl (fun w' hw' => by have h9 := Blk.cell hw' 1; exact h9) ?_
              simp only [Act.put, List.setIfInBounds_toArray, List.set_cons_succ, List.set_cons_zero]
              refine mix_t fun Q' hQ' => ?_
              go_wp2_with fail
              refine (initR_has q u R s.id _ hL4.pl.isr hp).mono ?_
              rintro e w5 ⟨rfl, rfl⟩
              go_wp2_with fail
              repeat (refine mix_w1 ?_; go_big_quiet_step (fail); refine wpQuiet_nil ?_)
              refine mix_t fun Q' hQ' => ?_
              go_wp2
              refine mix_done ?_
              go_wp2_with fail
              go_meet
              exact ⟨_, _, _, _, rfl, hL4.pl, HRL.out, by omega, by omega⟩
        case false =>
          cases e1 : (s.what == 1)
          case true =>
            as_aux_lemma =>
              cases hp : posR R.l s.id
              case none =>
                go_wp2_with fail
                have hL0 := hL.drew
                refine wp_region_mix [.w, .w, .l, .w, .l, .w, .l, .w, .k, .w, .w, .l, .w, .l, .w, .l, .w, .t, .w, .t] (by kernel_rfl) (by kernel_rfl) (fun w' => Blk w' g 50 s.cells.toArray) ?_
                repeat (refine mix_w1 ?_; go_big_quiet_step (fail); refine wpQuiet_nil ?_)
                refine mix_load1 hL0.blk rfl 3 (.tmp 87) rfl na3 ⟨g, 1, none⟩ (.int .i64 s.id) rfl (fun w' hw' => by have h9 := Blk.cell hw' 1; exact h9) ?_
                simp only [Act.put, List.setIfInBounds_toArray, List.set_cons_succ, List.set_cons_zero]
                repeat (refine mix_w1 ?_; go_big_quiet_step (fail); refine wpQuiet_nil ?_)
                refine mix_load1 hL0.blk rfl 3 (.tmp 89) rfl na3 ⟨g, 2, none⟩ (.int .i64 s.n) rfl (fun w' hw' => by have h9 := Blk.cell hw' 2; exact h9) ?_
                simp only [Act.put, List.setIfInBounds_toArray, List.set_cons_succ, List.set_cons_zero]
                repeat (refine mix_w1 ?_; go_big_quiet_step (fail); refine wpQuiet_nil ?_)
                refine mix_load1 hL0.blk rfl 3 (.tmp 91) rfl na3 ⟨g, 2, none⟩ (.int .i64 s.n) rfl (fun w' hw' => by have h9 := Blk.cell hw' 2; exact h9) ?_
                simp only [Act.put, List.setIfInBounds_toArray, List.set_cons_succ, List.set_cons_zero]
                repeat (refine mix_w1 ?_; go_big_quiet_step (fail); refine wpQuiet_nil ?_)
                refine mix_k (by exact hL0.blk) fun Q' hQ' => ?_
                go_wp2_with fail
                refine (cb_none p m v S s.id _ _ _ hL0.pl.one.isw (HRL.out.lacks hp)).mono ?_
                rintro e w4 ⟨rfl, rfl⟩
                have hL4 : Lo w _ p m v S q u R g s := hL0
                go_wp2_with fail
                refine hQ' _ _ hL4.blk ?_
                clear hQ' Q'
                repeat (refine mix_w1 ?_; go_big_quiet_step (fail); refine wpQuiet_nil ?_)
                refine mix_load1 hL4.blk rfl 3 (.tmp 96) rfl na3 ⟨g, 1, none⟩ (.int .i64 s.id) rfl (fun w' hw' => by have h9 := Blk.cell hw' 1; exact h9) ?_
                simp only [Act.put, List.setIfInBounds_toArray, List.set_cons_succ, List.set_cons_zero]
                repeat (refine mix_w1 ?_; go_big_quiet_step (fail); refine wpQuiet_nil ?_)
                refine mix_load1 hL4.blk rfl 3 (.tmp 98) rfl na3 ⟨g, 2, none⟩ (.int .i64 s.n) rfl (fun w' hw' => by have h9 := Blk.cell hw' 2; exact h9) ?_
                simp only [Act.put, List.setIfInBounds_toArray, List.set_cons_succ, List.set_cons_zero]
                repeat (refine mix_w1 ?_; go_big_quiet_step (fail); refine wpQuiet_nil ?_)
                refine mix_load1 hL4.blk rfl 3 (.tmp 100) rfl na3 ⟨g, 2, none⟩ (.int .i64 s.n) rfl (fun w' hw' => by have h9 := Blk.cell hw' 2; exact h9) ?_
                simp only [Act.put, List.setIfInBounds_toArray, List.set_cons_succ, List.set_cons_zero]
                repeat (refine mix_w1 ?_; go_big_quiet_step (fail); refine wpQuiet_nil ?_)
                refine mix_t fun Q' hQ' => ?_
                go_wp2_with fail
                refine (cbR_none q u R s.id _ _ _ hL4.pl.isr hp).mono ?_
                rintro e w5 ⟨rfl, rfl⟩
                go_wp2_with fail
                repeat (refine mix_w1 ?_; go_big_quiet_step (fail); refine wpQuiet_nil ?_)
                refine mix_t fun Q' hQ' => ?_
                go_wp2
                refine mix_done ?_
                go_wp2_with fail
                go_meet
                exact ⟨_, _, _, _, rfl, hL4.pl, HRL.out, by omega, by omega⟩
              case some k =>
                go_wp2_with fail
                have hL0 := hL.drew
                refine wp_region_mix [.w, .w, .l, .w, .l, .w, .l, .w, .k, .w, .w, .l, .w, .l, .w, .l, .w, .t, .w, .t] (by kernel_rfl) (by kernel_rfl) (fun w' => Blk w' g 50 s.cells.toArray) ?_
                repeat (refine mix_w1 ?_; go_big_quiet_step (fail); refine wpQuiet_nil ?_)
                refine mix_load1 hL0.blk rfl 3 (.tmp 87) rfl na3 ⟨g, 1, none⟩ (.int .i64 s.id) rfl (fun w' hw' => by have h9 := Blk.cell hw' 1; exact h9) ?_
                simp only [Act.put, List.setIfInBounds_toArray, List.set_cons_succ, List.set_cons_zero]
                repeat (refine mix_w1 ?_; go_big_quiet_step (fail); refine wpQuiet_nil ?_)
                refine mix_load1 hL0.blk rfl 3 (.tmp 89) rfl na3 ⟨g, 2, none⟩ (.int .i64 s.n) rfl (fun w' hw' => by have h9 := Blk.cell hw' 2; exact h9) ?_
                simp only [Act.put, List.setIfInBounds_toArray, List.set_cons_succ, List.set_cons_zero]
                repeat (refine mix_w1 ?_; go_big_quiet_step (fail); refine wpQuiet_nil ?_)
                refine mix_load1 hL0.blk rfl 3 (.tmp 91) rfl na3 ⟨g, 2, none⟩ (.int .i64 s.n) rfl (fun w' hw' => by have h9 := Blk.cell hw' 2; exact h9) ?_
                simp only [Act.put, List.setIfInBounds_toArray, List.set_cons_succ, List.set_cons_zero]
                repeat (refine mix_w1 ?_; go_big_quiet_step (fail); refine wpQuiet_nil ?_)
                obtain ⟨t, gt, ht, hlr, hid, hls⟩ := HRL.out.has hp
                refine mix_k (by exact hL0.blk) fun Q' hQ' => ?_
                go_wp2_with fail
                refine (stp_cb p m v S s.id _ _ _ hL0.pl.one.isw hls).mono ?_
                rintro e w4 ⟨rfl, hS4⟩
                have hL4 : Lo w w4 p m v _ q u R g s := hL0.stepW hS4
                go_wp2_with fail
                refine hQ' _ _ hL4.blk ?_
                clear hQ' Q'
                repeat (refine mix_w1 ?_; go_big_quiet_step (fail); refine wpQuiet_nil ?_)
                refine mix_load1 hL4.blk rfl 3 (.tmp 96) rfl na3 ⟨g, 1, none⟩ (.int .i64 s.id) rfl (fun w' hw' => by have h9 := Blk.cell hw' 1; exact h9) ?_
                simp only [Act.put, List.setIfInBounds_toArray, List.set_cons_succ, List.set_cons_zero]
                repeat (refine mix_w1 ?_; go_big_quiet_step (fail); refine wpQuiet_nil ?_)
                refine mix_load1 hL4.blk rfl 3 (.tmp 98) rfl na3 ⟨g, 2, none⟩ (.int .i64 s.n) rfl (fun w' hw' => by have h9 := Blk.cell hw' 2; exact h9) ?_
                simp only [Act.put, List.setIfInBounds_toArray, List.set_cons_succ, List.set_cons_zero]
                repeat (refine mix_w1 ?_; go_big_quiet_step (fail); refine wpQuiet_nil ?_)
                refine mix_load1 hL4.blk rfl 3 (.tmp 100) rfl na3 ⟨g, 2, none⟩ (.int .i64 s.n) rfl (fun w' hw' => by have h9 := Blk.cell hw' 2; exact h9) ?_
                simp only [Act.put, List.setIfInBounds_toArray, List.set_cons_succ, List.set_cons_zero]
                repeat (refine mix_w1 ?_; go_big_quiet_step (fail); refine wpQuiet_nil ?_)
                refine mix_t fun Q' hQ' => ?_
                go_wp2_with fail
                refine (cbR_ok q u R s.id _ _ _ hL4.pl.isr hp ht).mono ?_
                rintro e w5 ⟨rfl, hS5⟩
                go_wp2_with fail
                repeat (refine mix_w1 ?_; go_big_quiet_step (fail); refine wpQuiet_nil ?_)
                refine mix_t fun Q' hQ' => ?_
                go_wp2
                refine mix_done ?_
                go_wp2_with fail
                go_meet
                exact ⟨_, _, _, _, rfl, (hL4.stepR hS5).pl, HRL.out.cb hp ht hls _ _, by show S.starts ≤ _; omega, by simp; omega⟩
          case false =>
            cases e2 : (s.what == 2)
            case true =>
              as_aux_lemma =>
                cases hp : posR R.l s.id
                case none =>
                  go_wp2_with fail
                  have hL0 := hL.drew
                  refine wp_region_mix [.w, .w, .l, .w, .l, .k, .w, .w, .l, .w, .l, .t, .w, .t] (by kernel_rfl) (by kernel_rfl) (fun w' => Blk w' g 50 s.cells.toArray) ?_
                  repeat (refine mix_w1 ?_; go_big_quiet_step (fail); refine wpQuiet_nil ?_)
                  refine mix_load1 hL0.blk rfl 3 (.tmp 109) rfl na3 ⟨g, 1, none⟩ (.int .i64 s.id) rfl (fun w' hw' => by have h9 := Blk.cell hw' 1; exact h9) ?_
                  simp only [Act.put, List.setIfInBounds_toArray, List.set_cons_succ, List.set_cons_zero]
                  repeat (refine mix_w1 ?_; go_big_quiet_step (fail); refine wpQuiet_nil ?_)
                  refine mix_load1 hL0.blk rfl 31 (.tmp 111) rfl na31 ⟨g, 3, none⟩ (.int .u64 s.t) rfl (fun w' hw' => by have h9 := Blk.cell hw' 3; exact h9) ?_
                  simp only [Act.put, List.setIfInBounds_toArray, List.set_cons_succ, List.set_cons_zero]
                  refine mix_k (by exact hL0.blk) fun Q' hQ' => ?_
                  go_wp2_with fail
                  refine (startN p m v S s.id s.t _ hL0.pl.one.isw (HRL.out.lacks hp)).mono ?_
                  rintro e w4 ⟨rfl, rfl⟩
                  have hL4 : Lo w _ p m v S q u R g s := hL0
                  go_wp2_with fail
                  refine hQ' _ _ hL4.blk ?_
                  clear hQ' Q'
                  repeat (refine mix_w1 ?_; go_big_quiet_step (fail); refine wpQuiet_nil ?_)
                  refine mix_load1 hL4.blk rfl 3 (.tmp 115) rfl na3 ⟨g, 1, none⟩ (.int .i64 s.id) rfl (fun w' hw' => by have h9 := Blk.cell hw' 1; exact h9) ?_
                  simp only [Act.put, List.setIfInBounds_toArray, List.set_cons_succ, List.set_cons_zero]
                  repeat (refine mix_w1 ?_; go_big_quiet_step (fail); refine wpQuiet_nil ?_)
                  refine mix_load1 hL4.blk rfl 31 (.tmp 117) rfl na31 ⟨g, 3, none⟩ (.int .u64 s.t) rfl (fun w' hw' => by have h9 := Blk.cell hw' 3; exact h9) ?_
                  simp only [Act.put, List.setIfInBounds_toArray, List.set_cons_succ, List.set_cons_zero]
                  refine mix_t fun Q' hQ' => ?_
                  go_wp2_with fail
                  refine (startR_none q u R s.id _ _ hL4.pl.isr hp).mono ?_
                  rintro e w5 ⟨rfl, rfl⟩
                  go_wp2_with fail
                  repeat (refine mix_w1 ?_; go_big_quiet_step (fail); refine wpQuiet_nil ?_)
                  refine mix_t fun Q' hQ' => ?_
                  go_wp2
                  refine mix_done ?_
                  go_wp2_with fail
                  go_meet
                  exact ⟨_, _, _, _, rfl, hL4.pl, HRL.out, by omega, by omega⟩
                case some k =>
                  obtain ⟨t, gt, ht, hlr, hid, hls⟩ := HRL.out.has hp
                  cases hset : t.set
                  case false =>
                    go_wp2_with fail
                    have hL0 := hL.drew
                    refine wp_region_mix [.w, .w, .l, .w, .l, .k, .w, .w, .l, .w, .l, .t, .w, .t] (by kernel_rfl) (by kernel_rfl) (fun w' => Blk w' g 50 s.cells.toArray) ?_
                    repeat (refine mix_w1 ?_; go_big_quiet_step (fail); refine wpQuiet_nil ?_)
                    refine mix_load1 hL0.blk rfl 3 (.tmp 109) rfl na3 ⟨g, 1, none⟩ (.int .i64 s.id) rfl (fun w' hw' => by have h9 := Blk.cell hw' 1; exact h9) ?_
                    simp only [Act.put, List.setIfInBounds_toArray, List.set_cons_succ, List.set_cons_zero]
                    repeat (refine mix_w1 ?_; go_big_quiet_step (fail); refine wpQuiet_nil ?_)
                    refine mix_load1 hL0.blk rfl 31 (.tmp 111) rfl na31 ⟨g, 3, none⟩ (.int .u64 s.t) rfl (fun w' hw' => by have h9 := Blk.cell hw' 3; exact h9) ?_
                    simp only [Act.put, List.setIfInBounds_toArray, List.set_cons_succ, List.set_cons_zero]
                    refine mix_k (by exact hL0.blk) fun Q' hQ' => ?_
                    go_wp2_with fail
                    refine (start_none p m v S s.id s.t _ hL0.pl.one.isw hls hset).mono ?_
                    rintro e w4 ⟨rfl, rfl⟩
                    have hL4 : Lo w _ p m v S q u R g s := hL0
                    go_wp2_with fail
                    refine hQ' _ _ hL4.blk ?_
                    clear hQ' Q'
                    repeat (refine mix_w1 ?_; go_big_quiet_step (fail); refine wpQuiet_nil ?_)
                    refine mix_load1 hL4.blk rfl 3 (.tmp 115) rfl na3 ⟨g, 1, none⟩ (.int .i64 s.id) rfl (fun w' hw' => by have h9 := Blk.cell hw' 1; exact h9) ?_
                    simp only [Act.put, List.setIfInBounds_toArray, List.set_cons_succ, List.set_cons_zero]
                    repeat (refine mix_w1 ?_; go_big_quiet_step (fail); refine wpQuiet_nil ?_)
                    refine mix_load1 hL4.blk rfl 31 (.tmp 117) rfl na31 ⟨g, 3, none⟩ (.int .u64 s.t) rfl (fun w' hw' => by have h9 := Blk.cell hw' 3; exact h9) ?_
                    simp only [Act.put, List.setIfInBounds_toArray, List.set_cons_succ, List.set_cons_zero]
                    refine mix_t fun Q' hQ' => ?_
                    go_wp2_with fail
                    refine (startR_unset q u R s.id _ _ hL4.pl.isr hp ht hset).mono ?_
                    rintro e w5 ⟨rfl, rfl⟩
                    go_wp2_with fail
                    repeat (refine mix_w1 ?_; go_big_quiet_step (fail); refine wpQuiet_nil ?_)
                    refine mix_t fun Q' hQ' => ?_
                    go_wp2
                    refine mix_done ?_
                    go_wp2_with fail
                    go_meet
                    exact ⟨_, _, _, _, rfl, hL4.pl, HRL.out, by omega, by omega⟩
                  case true =>
                    go_wp2_with fail
                    have hL0 := hL.drew
                    refine wp_region_mix [.w, .w, .l, .w, .l, .k, .w, .w, .l, .w, .l, .t, .w, .t] (by kernel_rfl) (by kernel_rfl) (fun w' => Blk w' g 50 s.cells.toArray) ?_
                    repeat (refine mix_w1 ?_; go_big_quiet_step (fail); refine wpQuiet_nil ?_)
                    refine mix_load1 hL0.blk rfl 3 (.tmp 109) rfl na3 ⟨g, 1, none⟩ (.int .i64 s.id) rfl (fun w' hw' => by have h9 := Blk.cell hw' 1; exact h9) ?_
                    simp only [Act.put, List.setIfInBounds_toArray, List.set_cons_succ, List.set_cons_zero]
                    repeat (refine mix_w1 ?_; go_big_quiet_step (fail); refine wpQuiet_nil ?_)
                    refine mix_load1 hL0.blk rfl 31 (.tmp 111) rfl na31 ⟨g, 3, none⟩ (.int .u64 s.t) rfl (fun w' hw' => by have h9 := Blk.cell hw' 3; exact h9) ?_
                    simp only [Act.put, List.setIfInBounds_toArray, List.set_cons_succ, List.set_cons_zero]
                    have hs0 := hL0.pl.one.isw.st0
                    have hcn := HRL.out.cnt
                    have hc6 : R.count < 1000000 := by omega
                    clear hcn
                    refine mix_k (by exact hL0.blk) fun Q' hQ' => ?_
                    go_wp2_with fail
                    refine (stp_startAny p m v S s.id s.t _ hL0.pl.one.isw hls hset htr.1 htr.2 (by omega)).mono ?_
                    rintro e w4 ⟨rfl, v4, hS4⟩
                    have hL4 : Lo w w4 p m v4 _ q u R g s := hL0.stepW hS4
                    go_wp2_with fail
                    refine hQ' _ _ hL4.blk ?_
                    clear hQ' Q'
                    repeat (refine mix_w1 ?_; go_big_quiet_step (fail); refine wpQuiet_nil ?_)
                    refine mix_load1 hL4.blk rfl 3 (.tmp 115) rfl na3 ⟨g, 1, none⟩ (.int .i64 s.id) rfl (fun w' hw' => by have h9 := Blk.cell hw' 1; exact h9) ?_
                    simp only [Act.put, List.setIfInBounds_toArray, List.set_cons_succ, List.set_cons_zero]
                    repeat (refine mix_w1 ?_; go_big_quiet_step (fail); refine wpQuiet_nil ?_)
                    refine mix_load1 hL4.blk rfl 31 (.tmp 117) rfl na31 ⟨g, 3, none⟩ (.int .u64 s.t) rfl (fun w' hw' => by have h9 := Blk.cell hw' 3; exact h9) ?_
                    simp only [Act.put, List.setIfInBounds_toArray, List.set_cons_succ, List.set_cons_zero]
                    refine mix_t fun Q' hQ' => ?_
                    go_wp2_with fail
                    refine (startR_ok q u R s.id s.t _ hL4.pl.isr hp ht hset htr.1 htr.2 hc6).mono ?_
                    rintro e w5 ⟨rfl, hS5⟩
                    go_wp2_with fail
                    repeat (refine mix_w1 ?_; go_big_quiet_step (fail); refine wpQuiet_nil ?_)
                    refine mix_t fun Q' hQ' => ?_
                    go_wp2
                    refine mix_done ?_
                    go_wp2_with fail
                    go_meet
                    exact ⟨_, _, _, _, rfl, (hL4.stepR hS5).pl, HRL.out.start hs0 hp ht hset hls _, by show S.starts + 1 ≤ _; omega, by simp; omega⟩
            case false =>
              cases e3 : (s.what == 3)
              case true =>
                as_aux_lemma =>
                  cases hp : posR R.l s.id
                  case none =>
                    go_wp2_with fail
                    have hL0 := hL.drew
                    refine wp_region_mix [.w, .w, .l, .w, .l, .k, .w, .w, .l, .w, .l, .t, .w, .t] (by kernel_rfl) (by kernel_rfl) (fun w' => Blk w' g 50 s.cells.toArray) ?_
                    repeat (refine mix_w1 ?_; go_big_quiet_step (fail); refine wpQuiet_nil ?_)
                    refine mix_load1 hL0.blk rfl 3 (.tmp 109) rfl na3 ⟨g, 1, none⟩ (.int .i64 s.id) rfl (fun w' hw' => by have h9 := Blk.cell hw' 1; exact h9) ?_
                    simp only [Act.put, List.setIfInBounds_toArray, List.set_cons_succ, List.set_cons_zero]
                    repeat (refine mix_w1 ?_; go_big_quiet_step (fail); refine wpQuiet_nil ?_)
                    refine mix_load1 hL0.blk rfl 31 (.tmp 111) rfl na31 ⟨g, 3, none⟩ (.int .u64 s.t) rfl (fun w' hw' => by have h9 := Blk.cell hw' 3; exact h9) ?_
                    simp only [Act.put, List.setIfInBounds_toArray, List.set_cons_succ, List.set_cons_zero]
                    refine mix_k (by exact hL0.blk) fun Q' hQ' => ?_
                    go_wp2_with fail
                    refine (startN p m v S s.id s.t _ hL0.pl.one.isw (HRL.out.lacks hp)).mono ?_
                    rintro e w4 ⟨rfl, rfl⟩
                    have hL4 : Lo w _ p m v S q u R g s := hL0
                    go_wp2_with fail
                    refine hQ' _ _ hL4.blk ?_
                    clear hQ' Q'
                    repeat (refine mix_w1 ?_; go_big_quiet_step (fail); refine wpQuiet_nil ?_)
                    refine mix_load1 hL4.blk rfl 3 (.tmp 115) rfl na3 ⟨g, 1, none⟩ (.int .i64 s.id) rfl (fun w' hw' => by have h9 := Blk.cell hw' 1; exact h9) ?_
                    simp only [Act.put, List.setIfInBounds_toArray, List.set_cons_succ, List.set_cons_zero]
                    repeat (refine mix_w1 ?_; go_big_quiet_step (fail); refine wpQuiet_nil ?_)
                    refine mix_load1 hL4.blk rfl 31 (.tmp 117) rfl na31 ⟨g, 3, none⟩ (.int .u64 s.t) rfl (fun w' hw' => by have h9 := Blk.cell hw' 3; exact h9) ?_
                    simp only [Act.put, List.setIfInBounds_toArray, List.set_cons_succ, List.set_cons_zero]
                    refine mix_t fun Q' hQ' => ?_
                    go_wp2_with fail
                    refine (startR_none q u R s.id _ _ hL4.pl.isr hp).mono ?_
                    rintro e w5 ⟨rfl, rfl⟩
                    go_wp2_with fail
                    repeat (refine mix_w1 ?_; go_big_quiet_step (fail); refine wpQuiet_nil ?_)
                    refine mix_t fun Q' hQ' => ?_
                    go_wp2
                    refine mix_done ?_
                    go_wp2_with fail
                    go_meet
                    exact ⟨_, _, _, _, rfl, hL4.pl, HRL.out, by omega, by omega⟩
                  case some k =>
                    obtain ⟨t, gt, ht, hlr, hid, hls⟩ := HRL.out.has hp
                    cases hset : t.set
                    case false =>
                      go_wp2_with fail
                      have hL0 := hL.drew
                      refine wp_region_mix [.w, .w, .l, .w, .l, .k, .w, .w, .l, .w, .l, .t, .w, .t] (by kernel_rfl) (by kernel_rfl) (fun w' => Blk w' g 50 s.cells.toArray) ?_
                      repeat (refine mix_w1 ?_; go_big_quiet_step (fail); refine wpQuiet_nil ?_)
                      refine mix_load1 hL0.blk rfl 3 (.tmp 109) rfl na3 ⟨g, 1, none⟩ (.int .i64 s.id) rfl (fun w' hw' => by have h9 := Blk.cell hw' 1; exact h9) ?_
                      simp only [Act.put, List.setIfInBounds_toArray, List.set_cons_succ, List.set_cons_zero]
                      repeat (refine mix_w1 ?_; go_big_quiet_step (fail); refine wpQuiet_nil ?_)
                      refine mix_load1 hL0.blk rfl 31 (.tmp 111) rfl na31 ⟨g, 3, none⟩ (.int .u64 s.t) rfl (fun w' hw' => by have h9 := Blk.cell hw' 3; exact h9) ?_
                      simp only [Act.put, List.setIfInBounds_toArray, List.set_cons_succ, List.set_cons_zero]
                      refine mix_k (by exact hL0.blk) fun Q' hQ' => ?_
                      go_wp2_with fail
                      refine (start_none p m v S s.id s.t _ hL0.pl.one.isw hls hset).mono ?_
                      rintro e w4 ⟨rfl, rfl⟩
                      have hL4 : Lo w _ p m v S q u R g s := hL0
                      go_wp2_with fail
                      refine hQ' _ _ hL4.blk ?_
                      clear hQ' Q'
                      repeat (refine mix_w1 ?_; go_big_quiet_step (fail); refine wpQuiet_nil ?_)
                      refine mix_load1 hL4.blk rfl 3 (.tmp 115) rfl na3 ⟨g, 1, none⟩ (.int .i64 s.id) rfl (fun w' hw' => by have h9 := Blk.cell hw' 1; exact h9) ?_
                      simp only [Act.put, List.setIfInBounds_toArray, List.set_cons_succ, List.set_cons_zero]
                      repeat (refine mix_w1 ?_; go_big_quiet_step (fail); refine wpQuiet_nil ?_)
                      refine mix_load1 hL4.blk rfl 31 (.tmp 117) rfl na31 ⟨g, 3, none⟩ (.int .u64 s.t) rfl (fun w' hw' => by have h9 := Blk.cell hw' 3; exact h9) ?_
                      simp only [Act.put, List.setIfInBounds_toArray, List.set_cons_succ, List.set_cons_zero]
                      refine mix_t fun Q' hQ' => ?_
                      go_wp2_with fail
                      refine (startR_unset q u R s.id _ _ hL4.pl.isr hp ht hset).mono ?_
                      rintro e w5 ⟨rfl, rfl⟩
                      go_wp2_with fail
                      repeat (refine mix_w1 ?_; go_big_quiet_step (fail); refine wpQuiet_nil ?_)
                      refine mix_t fun Q' hQ' => ?_
                      go_wp2
                      refine mix_done ?_
                      go_wp2_with fail
                      go_meet
                      exact ⟨_, _, _, _, rfl, hL4.pl, HRL.out, by omega, by omega⟩
                    case true =>
                      go_wp2_with fail
                      have hL0 := hL.drew
                      refine wp_region_mix [.w, .w, .l, .w, .l, .k, .w, .w, .l, .w, .l, .t, .w, .t] (by kernel_rfl) (by kernel_rfl) (fun w' => Blk w' g 50 s.cells.toArray) ?_
                      repeat (refine mix_w1 ?_; go_big_quiet_step (fail); refine wpQuiet_nil ?_)
                      refine mix_load1 hL0.blk rfl 3 (.tmp 109) rfl na3 ⟨g, 1, none⟩ (.int .i64 s.id) rfl (fun w' hw' => by have h9 := Blk.cell hw' 1; exact h9) ?_
                      simp only [Act.put, List.setIfInBounds_toArray, List.set_cons_succ, List.set_cons_zero]
                      repeat (refine mix_w1 ?_; go_big_quiet_step (fail); refine wpQuiet_nil ?_)
                      refine mix_load1 hL0.blk rfl 31 (.tmp 111) rfl na31 ⟨g, 3, none⟩ (.int .u64 s.t) rfl (fun w' hw' => by have h9 := Blk.cell hw' 3; exact h9) ?_
                      simp only [Act.put, List.setIfInBounds_toArray, List.set_cons_succ, List.set_cons_zero]
                      have hs0 := hL0.pl.one.isw.st0
                      have hcn := HRL.out.cnt
                      have hc6 : R.count < 1000000 := by omega
                      clear hcn
                      refine mix_k (by exact hL0.blk) fun Q' hQ' => ?_
                      go_wp2_with fail
                      refine (stp_startAny p m v S s.id s.t _ hL0.pl.one.isw hls hset htr.1 htr.2 (by omega)).mono ?_
                      rintro e w4 ⟨rfl, v4, hS4⟩
                      have hL4 : Lo w w4 p m v4 _ q u R g s := hL0.stepW hS4
                      go_wp2_with fail
                      refine hQ' _ _ hL4.blk ?_
                      clear hQ' Q'
                      repeat (refine mix_w1 ?_; go_big_quiet_step (fail); refine wpQuiet_nil ?_)
                      refine mix_load1 hL4.blk rfl 3 (.tmp 115) rfl na3 ⟨g, 1, none⟩ (.int .i64 s.id) rfl (fun w' hw' => by have h9 := Blk.cell hw' 1; exact h9) ?_
                      simp only [Act.put, List.setIfInBounds_toArray, List.set_cons_succ, List.set_cons_zero]
                      repeat (refine mix_w1 ?_; go_big_quiet_step (fail); refine wpQuiet_nil ?_)
                      refine mix_load1 hL4.blk rfl 31 (.tmp 117) rfl na31 ⟨g, 3, none⟩ (.int .u64 s.t) rfl (fun w' hw' => by have h9 := Blk.cell hw' 3; exact h9) ?_
                      simp only [Act.put, List.setIfInBounds_toArray, List.set_cons_succ, List.set_cons_zero]
                      refine mix_t fun Q' hQ' => ?_
                      go_wp2_with fail
                      refine (startR_ok q u R s.id s.t _ hL4.pl.isr hp ht hset htr.1 htr.2 hc6).mono ?_
                      rintro e w5 ⟨rfl, hS5⟩
                      go_wp2_with fail
                      repeat (refine mix_w1 ?_; go_big_quiet_step (fail); refine wpQuiet_nil ?_)
                      refine mix_t fun Q' hQ' => ?_
                      go_wp2
                      refine mix_done ?_
                      go_wp2_with fail
                      go_meet
                      exact ⟨_, _, _, _, rfl, (hL4.stepR hS5).pl, HRL.out.start hs0 hp ht hset hls _, by show S.starts + 1 ≤ _; omega, by simp; omega⟩
              case false =>
                cases e4 : (s.what == 4)
                case true =>
                  as_aux_lemma =>
                    cases hp : posR R.l s.id
                    case none =>
                      go_wp2_with fail
                      refine (cancel_none p m v S s.id _ hL.pl.one.isw (HRL.out.lacks hp)).mono ?_
                      rintro e w4 ⟨rfl, rfl⟩
                      go_wp2_with fail
                      refine (cancelR_none q u R s.id _ hL.pl.isr hp).mono ?_
                      rintro e w5 ⟨rfl, rfl⟩
                      go_wp2_with fail
                      go_meet
                      exact ⟨_, _, _, _, rfl, hL.pl, HRL.out, by omega, by omega⟩
                    case some k =>
                      go_wp2_with fail
                      obtain ⟨t, gt, ht, hlr, hid, hls⟩ := HRL.out.has hp
                      obtain ⟨hR4, hb4⟩ := HRL.out.cancel hp ht hls
                      have HB4 := Lib.hid hb4
                      clear hb4
                      refine (stp_cancel p m v S s.id _ hL.pl.one.isw hls).mono ?_
                      rintro e w4 ⟨rfl, hS4⟩
                      rw [HB4.out]
                      have hL4 := hL.stepW hS4
                      have hbc4 := hL4.blk.cell
                      simp only [St.cells] at hbc4
                      go_wp2_with fail
                      refine (cancelR_ok q u R s.id _ hL4.pl.isr hp ht).mono ?_
                      rintro e w5 ⟨rfl, hS5⟩
                      go_wp2_with fail
                      go_meet
                      exact ⟨_, _, _, _, rfl, (hL4.stepR hS5).pl, hR4, by show S.starts ≤ _; omega, by simp; omega⟩
                case false =>
                  cases e5 : (s.what == 5)
                  case true =>
                    as_aux_lemma =>
                      cases hp : posR R.l s.id
                      case none =>
                        go_wp2_with fail
                        have hnod : S.all.Pairwise fun x y => x.1 ≠ y.1 := hL.pl.one.isw.nod.imp (fun h => h.1)
                        refine (stp_drop p m v S s.id _ hL.pl.one.isw).mono ?_
                        rintro e w4 ⟨rfl, hS4⟩
                        have hL4 := hL.stepW hS4
                        have hbc4 := hL4.blk.cell
                        simp only [St.cells] at hbc4
                        go_wp2_with fail
                        refine (dropR_none q u R s.id _ hL4.pl.isr hp).mono ?_
                        rintro e w5 ⟨rfl, rfl⟩
                        go_wp2_with fail
                        go_meet
                        exact ⟨_, _, _, _, rfl, hL4.pl, HRL.out.drop_none hnod hp, by show S.starts ≤ _; omega, by omega⟩
                      case some k =>
                        go_wp2_with fail
                        have hnod : S.all.Pairwise fun x y => x.1 ≠ y.1 := hL.pl.one.isw.nod.imp (fun h => h.1)
                        refine (stp_drop p m v S s.id _ hL.pl.one.isw).mono ?_
                        rintro e w4 ⟨rfl, hS4⟩
                        have hL4 := hL.stepW hS4
                        have hbc4 := hL4.blk.cell
                        simp only [St.cells] at hbc4
                        go_wp2_with fail
                        refine (dropR_some q u R s.id _ hL4.pl.isr hp).mono ?_
                        rintro e w5 ⟨rfl, u5, hS5⟩
                        go_wp2_with fail
                        go_meet
                        exact ⟨_, _, _, _, rfl, (hL4.stepR hS5).pl, HRL.out.drop hnod hp, by show S.starts ≤ _; omega, by simp; omega⟩
                  case false =>
                    as_aux_lemma =>
                      go_upto_region 13 with fail
                      go_cut [12, 46] (fun s12 s46 wx => ∃ b, s46 = .bool b ∧ s12 = .int .u64 s.t ∧ (b = true → S.now < 9223372036854775808) ∧ wx = wa)
                      case first =>
                        cases hg : decide ((0 : Int) < s.n.tmod 4)
                        case false =>
                          go_wp2_with fail
                          go_meet
                          exact ⟨false, rfl, rfl, (fun h => by cases h), rfl⟩
                        case true =>
                          go_wp2_with fail
                          refine (now_any p m v S wa hL.pl.one.isw).mono ?_
                          rintro e w4 ⟨rfl, rfl⟩
                          go_wp2_with fail
                          go_meet
                          exact ⟨_, rfl, rfl, fun h => of_decide_eq_true h, rfl⟩
                      case rest =>
                        obtain ⟨bb, rfl, rfl, hbb, rfl⟩ := hcut
                        go_upto_if 46 with fail
                        go_cut [12] (fun s12 wx => ∃ tt : Int, s12 = .int .u64 tt ∧ 0 ≤ tt ∧ tt < 18446744073709551616 ∧ Lo w wx p m v S q u R g s)
                        case first =>
                          cases bb
                          case false =>
                            go_wp2_with fail
                            go_meet
                            exact ⟨s.t, rfl, htr.1, htr.2, hL⟩
                          case true =>
                            have hlt63 := hbb rfl
                            have hn0 := hL.pl.one.isw.now0
                            have hm0 : 0 ≤ s.t % 20 ∧ s.t % 20 < 20 := by omega
                            have hL0 := hL.drew
                            go_wp2_with fail
                            refine wp_region_mix [.w, .k, .w, .l, .w, .w, .t] (by kernel_rfl) (by kernel_rfl) (fun w' => Blk w' g 50 s.cells.toArray) ?_
                            repeat (refine mix_w1 ?_; go_big_quiet_step (fail); refine wpQuiet_nil ?_)
                            refine mix_k (by exact hL0.blk) fun Q' hQ' => ?_
                            go_wp2_with fail
                            refine (now_any p m v S _ hL0.pl.one.isw).mono ?_
                            rintro e w4 ⟨rfl, rfl⟩
                            go_wp2_with fail
                            refine hQ' _ _ hL0.blk ?_
                            clear hQ' Q'
                            repeat (refine mix_w1 ?_; go_big_quiet_step (fail); refine wpQuiet_nil ?_)
                            refine mix_load1 hL0.blk rfl 31 (.tmp 49) rfl na31 ⟨g, 3, none⟩ (.int .u64 s.t) rfl (fun w' hw' => by have h9 := Blk.cell hw' 3; exact h9) ?_
                            simp only [Act.put, List.setIfInBounds_toArray, List.set_cons_succ, List.set_cons_zero]
                            repeat (refine mix_w1 ?_; go_big_quiet_step (fail); refine wpQuiet_nil ?_)
                            refine mix_t fun Q' hQ' => ?_
                            go_wp2
                            refine mix_done ?_
                            go_wp2_with fail
                            go_meet
                            exact ⟨_, rfl, by omega, by omega, hL0⟩
                        case rest =>
                          clear hL hbc hbb
                          obtain ⟨tt, rfl, ht0, ht1, hL⟩ := hcut
                          have hnow := HRL.out.now
                          by_cases hbad : tt < S.now
                          case pos =>
                            have hbad2 : tt < R.now := by omega
                            clear hnow
                            go_wp2_with fail
                            refine (tick_bad p m v S tt _ hL.pl.one.isw hbad).mono ?_
                            rintro e w4 ⟨rfl, rfl⟩
                            go_wp2_with fail
                            refine (tickR_bad q u R tt _ hL.pl.isr hbad2).mono ?_
                            rintro e w4 ⟨rfl, rfl⟩
                            go_wp2_with fail
                            refine (fired_same (.slice none 0 0) (.slice none 0 0) [] _ (Sl.nil _ _ _) (Sl.nil _ _ _) (by simp)).mono ?_
                            rintro e w5 ⟨rfl, nn, rfl⟩
                            have hL5 := hL.quiet (Kept.drewN (Kept.refl _ _) nn)
                            go_wp2_with fail
                            go_meet
                            exact ⟨_, _, _, _, rfl, hL5.pl, HRL.out, by omega, by omega⟩
                          case neg =>
                            have hok : S.now ≤ tt := by omega
                            have hok2 : R.now ≤ tt := by omega
                            clear hnow hbad
                            go_wp2_with fail
                            refine (stp_tick p m v S tt _ hL.pl.one.isw HRL.out.hv hok ht1).mono ?_
                            rintro e w4 ⟨ov, v4, S4, ys, rfl, hO4, hOb4, hS4, hys1, hys2, hlook, hv4, hn4, hs4, hlen4⟩
                            have hL4 := hL.stepW hS4
                            obtain ⟨hfd, hR4⟩ := HRL.out.tick hys1 hys2 hlook hv4 hn4 hs4
                            have hdue := hL.pl.one.isw.small
                            have HS4 := Lib.hid hs4
                            have HFD := Lib.hid hfd
                            clear hys1 hys2 hlook hv4 hn4 hs4 hfd
                            go_wp2_with fail
                            refine (tickR_ok q u R tt w4 hL4.pl.isr hok2 ht1 (HRL.out.tickIn tt)).mono ?_
                            rintro e w5 ⟨ov5, rfl, hO5, hOb5, hS5⟩
                            have hL5 := hL4.stepR hS5
                            have hO45 := hO4.kept hS5.kept (fun g' hg' e => by
                              have h1 := (hOb4 g' hg').1
                              have h2 := hL.pl.isr.fp_lt e
                              omega)
                            rw [HFD.out] at hO45
                            have hln5 : ((dueL tt R.l []).map RT.fd).length ≤ 1000000000 := by
                              have h1 := dueL_len tt R.l []
                              have h2 := hL.pl.isr.small
                              simp at h1 ⊢
                              omega
                            go_wp2_with fail
                            refine (fired_same ov ov5 _ w5 hO45 hO5 hln5).mono ?_
                            rintro e w6 ⟨rfl, nn, rfl⟩
                            have hL6 := hL5.quiet (Kept.drewN (Kept.refl _ w5) nn)
                            go_wp2_with fail
                            go_meet
                            refine ⟨_, _, _, _, rfl, hL6.pl, hR4, by rw [HS4.out]; omega, ?_⟩
                            show (offs R.l _).length ≤ _
                            have := congrArg List.length (offs_ids (dueL tt R.l []) R.l)
                            simp only [List.length_map] at this
                            omega
      case rest =>
        clear hL hst hln HRL
        obtain ⟨v, S, u, R, rfl, hP, hRl, hst, hln⟩ := hcut
        have hne : (S.now != R.now) = false := by rw [hRl.now]; simp
        have hdl := dueL_len 18446744073709551615 R.l []
        simp only [List.length_nil, Nat.zero_add] at hdl
        have HRL := Lib.hid hRl
        clear hRl
        go_wp2_with fail
        refine (now_any p m v S wc hP.one.isw).mono ?_
        rintro e w4 ⟨rfl, rfl⟩
        go_wp2_with fail
        refine (nowR_any q u R wc hP.isr).mono ?_
        rintro e w4 ⟨rfl, rfl⟩
        go_wp2_with fail
        refine (armed_any p m v S wc hP.one.isw).mono ?_
        rintro e w4 ⟨av, outs, rfl, hA4, hA4b, hAr, hk4⟩
        obtain rfl := HRL.out.armed hAr
        clear hAr
        have hP4 := hP.quiet hk4
        go_wp2_with fail
        refine (armedR_any q u R w4 hP4.isr).mono ?_
        rintro e w5 ⟨bv, rfl, hB5, hB5b, hk5⟩
        have hP5 := hP4.quiet hk5
        have hA5 := hA4.kept hk5 (fun _ _ h => h)
        go_wp2_with fail
        refine (ints_same av bv _ w5 hA5 hB5 (by simp; omega)).mono ?_
        rintro e w6 ⟨rfl, nn, rfl⟩
        have hP6 : Pl w (w5.drewN nn) p m v S q u R := hP5.quiet (Kept.drewN (Kept.refl _ w5) nn)
        go_wp2_with fail
        go_roundw
        case rel => exact ⟨i + 1, v, S, u, R, by go_num, by omega, hP6, HRL.out, by omega, hln⟩
        case measure => simp [intOf]; omega

end Go.Proofs.Ytaehmaocibimeaa

import Derived.Test.YtmgdjiplpfeoiaaDoorTr
set_option linter.unusedSimpArgs false
set_option linter.unusedVariables false
namespace Go.Proofs.YtmgdjiplpfeoiaaDoor
open Go.RowKit

theorem through_ix {l : List Ty} (hg : Good l) {i : Nat} (hi : i < l.length) : ∃ (k : Nat) (t : Ty), throughL l ((i : Int) + 1) = (k : Int) + 1 ∧ l[k]? = some t ∧ tyAt l (throughL l ((i : Int) + 1)) = some t ∧ t.kind ≠ 5 := by
  obtain ⟨t, ht, hk⟩ := through_at hg.closed hg.acyc (id := (i : Int) + 1) (by omega) (by omega)
  obtain ⟨k, hk1, hk2⟩ := tyAt_get ht
  exact ⟨k, t, hk1, hk2, ht, hk⟩

set_option maxHeartbeats 4000000 in
set_option maxRecDepth 100000 in
theorem size_ih (l : List Ty) (a : Option Addr) (c : Nat) (hg : Good l) : ∀ (f : Nat) (i : Nat) (w : World), Tys w (.slice a l.length c) l → i < l.length → rk l ((i : Int) + 1) < f →
    Calls Tryd.prog 24 #[.slice a l.length c, .int .i64 ((i : Int) + 1)] w fun e w' => e = .returned (.int .i64 (sizeL l ((i : Int) + 1))) ∧ Kept (fun _ => False) w w'
  | 0, _, _, _, _, h0 => absurd h0 (Nat.not_lt_zero _)
  | f + 1, i, w, h, hi, hr => by
    have h256 := hg.fit.len
    obtain ⟨k, t, hk1, hk2, hta, hk5⟩ := through_ix hg hi
    have hst := size_step hg.closed hg.acyc hta
    obtain ⟨g, off, mv, rfl, hgl, hm, c0, c1, c2, c3, c4, c5, c6⟩ := h.at_ hk2
    obtain ⟨ma, mc, rfl⟩ := hm.any
    have hkl := (List.getElem?_eq_some_iff.1 hk2).1
    have hB := Blk.new w 38 (tyVals t (.slice ma t.mem.length mc))
    have hkA : Kept (fun _ => False) w (w.alloc (.cells (tyVals t (.slice ma t.mem.length mc)) 38)) := (Kept.refl _ w).alloc _
    by_cases h2 : t.kind = 2
    · rw [if_pos h2] at hst
      have e2 : (t.kind == 2) = true := by simpa using h2
      clear h2
      go_enter Tryd.func24, Tryd.ntmps24
      go_wp2_with fail
      refine (through_any l _ c i w h hg hi).mono ?_
      rw [hk1]
      rintro e w1 ⟨rfl, rfl⟩
      go_wp2_with fail
      go_ret
      exact ⟨by first | rfl | (rw [hst]; rfl), hkA⟩
    rw [if_neg h2] at hst
    have e2 : (t.kind == 2) = false := by simpa using h2
    clear h2
    by_cases h3 : t.kind = 3
    · rw [if_pos h3] at hst
      have hs := array_succ hta h3
      have hto := hg.closed _ _ hs
      have hrk := rk_lt hg.closed hg.acyc hs
      have hrt : rk l (throughL l ((i : Int) + 1)) ≤ rk l ((i : Int) + 1) := through_rk hg.closed hg.acyc _ _
      obtain ⟨hc1, hc2⟩ := hg.count hta h3
      obtain ⟨j, hj⟩ : ∃ j : Nat, t.to = (j : Int) + 1 := ⟨(t.to - 1).toNat, by omega⟩
      have hsr := hg.size_range (rk l t.to + 1) t.to (by omega) hto.1 hto.2
      have hmul : 0 ≤ t.count * sizeL l t.to := Int.mul_nonneg hc1 hsr.1
      have hmul2 : t.count * sizeL l t.to ≤ 65536 * 65537 := Int.mul_le_mul hc2 hsr.2 hsr.1 (by omega)
      have e3 : (t.kind == 3) = true := by simpa using h3
      have IH := Lib.hid (show ∀ W, Tys W (.slice (some ⟨g, off, none⟩) l.length c) l → Calls Tryd.prog 24 #[.slice (some ⟨g, off, none⟩) l.length c, .int .i64 t.to] W (fun e w' => e = .returned (.int .i64 (sizeL l t.to)) ∧ Kept (fun _ => False) W w') from fun W hW => by
        rw [hj]
        exact size_ih l (some ⟨g, off, none⟩) c hg f j W hW (by omega) (by rw [← hj]; omega))
      have HJ := Lib.hid hj
      clear h3 hj
      go_enter Tryd.func24, Tryd.ntmps24
      go_wp2_with fail
      refine (through_any l _ c i w h hg hi).mono ?_
      rw [hk1]
      rintro e w1 ⟨rfl, rfl⟩
      go_wp2_with fail
      refine wp_region_mix [.w, .l, .w, .w, .l, .k, .w, .w, .w] (by kernel_rfl) (by kernel_rfl) (fun w' => Blk w' w.heap.size 38 (tyVals t (.slice ma t.mem.length mc))) ?_
      repeat (refine mix_w1 ?_; go_big_quiet_step (fail); refine wpQuiet_nil ?_)
      refine mix_load1 hB rfl 3 (.tmp 19) rfl naInt ⟨w.heap.size, 5, none⟩ (.int .i64 t.count) rfl (fun w' hw' => by have h9 := Blk.cell hw' 5; exact h9) ?_
      simp only [Act.put, List.setIfInBounds_toArray, List.set_cons_succ, List.set_cons_zero]
      repeat (refine mix_w1 ?_; go_big_quiet_step (fail); refine wpQuiet_nil ?_)
      refine mix_load1 hB rfl 3 (.tmp 22) rfl naInt ⟨w.heap.size, 4, none⟩ (.int .i64 t.to) rfl (fun w' hw' => by have h9 := Blk.cell hw' 4; exact h9) ?_
      simp only [Act.put, List.setIfInBounds_toArray, List.set_cons_succ, List.set_cons_zero]
      refine mix_k hB fun Q' hQ' => ?_
      go_wp2_with fail
      refine (IH.out _ ((h.kept hkA).kept ((Kept.refl _ _).drew))).mono ?_
      rintro e w2 ⟨rfl, hk2'⟩
      have hB2 := hk2'.blk (fun h => h) hB
      go_wp2_with fail
      refine hQ' _ _ hB2 ?_
      clear hQ' Q'
      repeat (refine mix_w1 ?_; go_big_quiet_step (fail); refine wpQuiet_nil ?_)
      refine mix_done ?_
      go_wp2_with fail
      all_goals go_ret
      all_goals exact ⟨congrArg (fun z => Ending.returned (.int .i64 z)) (by omega), (hkA.drew).trans hk2' (fun _ _ h => h)⟩
    rw [if_neg h3] at hst
    have e3 : (t.kind == 3) = false := by simpa using h3
    clear h3
    go_enter Tryd.func24, Tryd.ntmps24
    go_wp2_with fail
    refine (through_any l _ c i w h hg hi).mono ?_
    rw [hk1]
    rintro e w1 ⟨rfl, rfl⟩
    go_wp2_with fail
    go_ret
    exact ⟨by first | rfl | (rw [hst]; rfl), hkA⟩

end Go.Proofs.YtmgdjiplpfeoiaaDoor

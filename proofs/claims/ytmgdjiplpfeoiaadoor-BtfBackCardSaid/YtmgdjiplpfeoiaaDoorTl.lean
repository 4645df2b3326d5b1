import Derived.Test.YtmgdjiplpfeoiaaDoorTs
set_option linter.unusedSimpArgs false
set_option linter.unusedVariables false
namespace Go.Proofs.YtmgdjiplpfeoiaaDoor
open Go.RowKit

set_option maxHeartbeats 4000000 in
set_option maxRecDepth 100000 in
theorem laid_any (l : List Ty) (a : Option Addr) (c : Nat) (i : Nat) (t : Ty) (w : World) (h : Tys w (.slice a l.length c) l) (hg : Good l) (ht : l[i]? = some t) :
    Calls Tryd.prog 38 #[.slice a l.length c, .int .i64 ((i : Int) + 1)] w fun e w' => e = .returned (.bool (laidB l ((i : Int) + 1) t)) ∧ Kept (fun _ => False) w w' := by
  have h256 := hg.fit.len
  have hi := (List.getElem?_eq_some_iff.1 ht).1
  have htm := List.mem_of_getElem? ht
  obtain ⟨g, off, mv, rfl, hgl, hm, c0, c1, c2, c3, c4, c5, c6⟩ := h.at_ ht
  obtain ⟨ma, mc, rfl⟩ := hm.any
  have hB := Blk.new w 38 (tyVals t (.slice ma t.mem.length mc))
  have hkA : Kept (fun _ => False) w (w.alloc (.cells (tyVals t (.slice ma t.mem.length mc)) 38)) := (Kept.refl _ w).alloc _
  by_cases h3 : t.kind = 3
  · have hL : laidB l ((i : Int) + 1) t = decide (sizeL l ((i : Int) + 1) ≤ 65536) := by unfold laidB; rw [if_pos h3]
    have e3 : (t.kind == 3) = true := by simpa using h3
    have HL := Lib.hid hL
    clear h3 hL
    go_enter Tryd.func38, Tryd.ntmps38
    go_wp2_with fail
    refine (size_ih l _ c hg (rk l ((i : Int) + 1) + 1) i _ (h.kept hkA) hi (Nat.lt_succ_self _)).mono ?_
    rintro e w1 ⟨rfl, hk1⟩
    go_wp2_with fail
    go_ret
    exact ⟨by rw [HL.out]; rfl, hkA.trans hk1 (fun _ _ h => h)⟩
  by_cases h4 : t.kind = 4
  case neg =>
    have hL : laidB l ((i : Int) + 1) t = true := by unfold laidB; rw [if_neg h3, if_neg h4]
    have e3 : (t.kind == 3) = false := by simpa using h3
    have e4 : (t.kind != 4) = true := by simpa using h4
    have HL := Lib.hid hL
    clear h3 h4 hL
    go_enter Tryd.func38, Tryd.ntmps38
    go_wp2_with fail
    go_ret
    exact ⟨by rw [HL.out]; rfl, hkA⟩
  case pos =>
  have hL : laidB l ((i : Int) + 1) t = laidM l t.size t.mem 0 := by unfold laidB; rw [if_neg h3, if_pos h4]
  have hsz : 0 ≤ t.size ∧ t.size ≤ 65536 := by
    have := (alone_sized (hg.alone i t ht)).1
    unfold sizedB at this
    rw [if_neg (by omega), if_neg h3, if_pos h4] at this
    simpa only [Bool.and_eq_true, decide_eq_true_eq] using this
  have h64 := hg.fit.mem t htm
  have hbits := hg.bits t htm
  have hin : ∀ m ∈ t.mem, 1 ≤ m.type ∧ m.type ≤ (l.length : Int) := fun m hm => by
    refine whole_closed (alone_sized (hg.alone i t ht)).2.1 m.type ?_
    unfold holdsL
    rw [if_neg (by omega), if_pos h4]
    exact List.mem_map.2 ⟨m, hm, rfl⟩
  have e3 : (t.kind == 3) = false := by simpa using h3
  have e4 : (t.kind != 4) = false := by simpa using h4
  have HL := Lib.hid hL
  clear h3 h4 hL
  go_enter Tryd.func38, Tryd.ntmps38
  go_wp2_with fail
  go_loopw [28, 6] (fun iv ev wr => ∃ (j : Nat) (en : Int), iv = .int .i64 j ∧ ev = .int .i64 en ∧ j ≤ t.mem.length ∧ 0 ≤ en ∧ en ≤ 65536 ∧ laidM l t.size (t.mem.drop j) en = laidM l t.size t.mem 0 ∧ Blk wr w.heap.size 38 (tyVals t (.slice ma t.mem.length mc)) ∧ Kept (fun _ => False) w wr) (fun iv _ _ => t.mem.length - (intOf iv).toNat)
  case atStart => exact ⟨0, 0, rfl, rfl, Nat.zero_le _, by omega, by omega, by simp, hB, hkA⟩
  case round =>
    obtain ⟨j, en, rfl, rfl, hj, hen1, hen2, hld, hb, hK⟩ := hrel
    by_cases hlt : j < t.mem.length
    case neg =>
      obtain rfl : j = t.mem.length := by omega
      rw [List.drop_length] at hld
      go_wp2_with fail
      go_ret
      exact ⟨by rw [HL.out, ← hld]; rfl, hK⟩
    case pos =>
      obtain ⟨m, hmi⟩ : ∃ m, t.mem[j]? = some m := ⟨_, List.getElem?_eq_getElem hlt⟩
      have hmm := List.mem_of_getElem? hmi
      obtain ⟨hb1, hb2⟩ := hbits m hmm
      obtain ⟨hm1, hm2⟩ := hin m hmm
      obtain ⟨gm, om, rfl, hgm, d0, d1, d2⟩ := (hm.kept hK).at_ hmi
      have hdrop : t.mem.drop j = m :: t.mem.drop (j + 1) := by
        rw [List.drop_eq_getElem_cons hlt]
        congr 1
        exact (List.getElem?_eq_some_iff.1 hmi).2
      rw [hdrop] at hld
      simp only [laidM] at hld
      have hlw := hb.lt
      have hBm := Blk.new wr 42 #[nV m.name, .int .i64 m.type, .int .i64 m.bits]
      have hkB : Kept (fun _ => False) wr (wr.alloc (.cells #[nV m.name, .int .i64 m.type, .int .i64 m.bits] 42)) := (Kept.refl _ wr).alloc _
      have hbB := hkB.blk (fun h => h) hb
      have hC : Blk (wr.alloc (.cells #[nV m.name, .int .i64 m.type, .int .i64 m.bits] 42)).drew w.heap.size 38 (tyVals t (.slice (some ⟨gm, om, none⟩) t.mem.length mc)) ∧ Blk (wr.alloc (.cells #[nV m.name, .int .i64 m.type, .int .i64 m.bits] 42)).drew wr.heap.size 42 #[nV m.name, .int .i64 m.type, .int .i64 m.bits] := ⟨hbB, hBm⟩
      by_cases n0 : m.bits < 0
      · have f0 : decide (m.bits < 0) = true := decide_eq_true n0
        rw [f0] at hld
        simp only [Bool.true_or, Bool.not_true, Bool.false_and] at hld
        have HLD := Lib.hid hld
        clear n0 hld
        go_wp2_with fail
        refine wp_region_mix [.w, .l, .w, .w, .w, .l, .w, .w, .w, .w, .w, .w, .w, .w, .w, .w, .w, .l, .w, .w, .w, .w, .w, .l, .k, .w, .l, .w, .w, .w, .w] (by kernel_rfl) (by kernel_rfl) (fun w' => Blk w' w.heap.size 38 (tyVals t (.slice (some ⟨gm, om, none⟩) t.mem.length mc)) ∧ Blk w' wr.heap.size 42 #[nV m.name, .int .i64 m.type, .int .i64 m.bits]) ?_
        repeat (first
          | (refine mix_w1 ?_; go_big_quiet_step (fail); refine wpQuiet_nil ?_)
          | (refine mix_loadG hC (by simp [Region.wanted, yielded]) 3 (.tmp 35) rfl naInt ⟨wr.heap.size, 2, none⟩ (.int .i64 m.bits) rfl (fun w' hw' => by have h9 := Blk.cell hw'.2 2; exact h9) ?_; simp only [Act.put, List.setIfInBounds_toArray, List.set_cons_succ, List.set_cons_zero])
          | (refine mix_loadG hC (by simp [Region.wanted, yielded]) 3 (.tmp 39) rfl naInt ⟨wr.heap.size, 2, none⟩ (.int .i64 m.bits) rfl (fun w' hw' => by have h9 := Blk.cell hw'.2 2; exact h9) ?_; simp only [Act.put, List.setIfInBounds_toArray, List.set_cons_succ, List.set_cons_zero])
          | (refine mix_loadG hC (by simp [Region.wanted, yielded]) 3 (.tmp 51) rfl naInt ⟨w.heap.size, 2, none⟩ (.int .i64 t.size) rfl (fun w' hw' => by have h9 := Blk.cell hw'.1 2; exact h9) ?_; simp only [Act.put, List.setIfInBounds_toArray, List.set_cons_succ, List.set_cons_zero])
          | (refine mix_loadG hC (by simp [Region.wanted, yielded]) 3 (.tmp 57) rfl naInt ⟨wr.heap.size, 1, none⟩ (.int .i64 m.type) rfl (fun w' hw' => by have h9 := Blk.cell hw'.2 1; exact h9) ?_; simp only [Act.put, List.setIfInBounds_toArray, List.set_cons_succ, List.set_cons_zero])
          | (refine mix_loadG hC (by simp [Region.wanted, yielded]) 3 (.tmp 60) rfl naInt ⟨w.heap.size, 2, none⟩ (.int .i64 t.size) rfl (fun w' hw' => by have h9 := Blk.cell hw'.1 2; exact h9) ?_; simp only [Act.put, List.setIfInBounds_toArray, List.set_cons_succ, List.set_cons_zero])
          | (refine mix_l1 hC ?_; go_big_quiet_step (fail); refine wpQuiet_nil ?_))
        refine mix_k hC fun Q' hQ' => ?_
        go_wp2_with fail
        refine hQ' _ _ hC ?_
        clear hQ' Q'
        repeat (first
          | (refine mix_w1 ?_; go_big_quiet_step (fail); refine wpQuiet_nil ?_)
          | (refine mix_loadG hC (by simp [Region.wanted, yielded]) 3 (.tmp 35) rfl naInt ⟨wr.heap.size, 2, none⟩ (.int .i64 m.bits) rfl (fun w' hw' => by have h9 := Blk.cell hw'.2 2; exact h9) ?_; simp only [Act.put, List.setIfInBounds_toArray, List.set_cons_succ, List.set_cons_zero])
          | (refine mix_loadG hC (by simp [Region.wanted, yielded]) 3 (.tmp 39) rfl naInt ⟨wr.heap.size, 2, none⟩ (.int .i64 m.bits) rfl (fun w' hw' => by have h9 := Blk.cell hw'.2 2; exact h9) ?_; simp only [Act.put, List.setIfInBounds_toArray, List.set_cons_succ, List.set_cons_zero])
          | (refine mix_loadG hC (by simp [Region.wanted, yielded]) 3 (.tmp 51) rfl naInt ⟨w.heap.size, 2, none⟩ (.int .i64 t.size) rfl (fun w' hw' => by have h9 := Blk.cell hw'.1 2; exact h9) ?_; simp only [Act.put, List.setIfInBounds_toArray, List.set_cons_succ, List.set_cons_zero])
          | (refine mix_loadG hC (by simp [Region.wanted, yielded]) 3 (.tmp 57) rfl naInt ⟨wr.heap.size, 1, none⟩ (.int .i64 m.type) rfl (fun w' hw' => by have h9 := Blk.cell hw'.2 1; exact h9) ?_; simp only [Act.put, List.setIfInBounds_toArray, List.set_cons_succ, List.set_cons_zero])
          | (refine mix_loadG hC (by simp [Region.wanted, yielded]) 3 (.tmp 60) rfl naInt ⟨w.heap.size, 2, none⟩ (.int .i64 t.size) rfl (fun w' hw' => by have h9 := Blk.cell hw'.1 2; exact h9) ?_; simp only [Act.put, List.setIfInBounds_toArray, List.set_cons_succ, List.set_cons_zero])
          | (refine mix_l1 hC ?_; go_big_quiet_step (fail); refine wpQuiet_nil ?_))
        refine mix_done ?_
        go_wp2_with fail
        go_ret
        exact ⟨by rw [HL.out, ← HLD.out]; rfl, by first | exact (hK.trans hkB (fun _ _ h => h)).drew | exact hK.trans hkB (fun _ _ h => h)⟩
      have f0 : decide (m.bits < 0) = false := decide_eq_false n0
      have hq : m.bits.tdiv 8 = m.bits / 8 := Int.tdiv_eq_ediv_of_nonneg (by omega)
      have hr : m.bits.tmod 8 = m.bits % 8 := Int.tmod_eq_emod_of_nonneg (by omega)
      rw [f0, ← hq, ← hr] at hld
      have hq0 : 0 ≤ m.bits.tdiv 8 := by rw [hq]; omega
      have hq1 : m.bits.tdiv 8 ≤ 9223372036854775807 := by rw [hq]; omega
      clear hq hr
      generalize hqq : m.bits.tdiv 8 = q at *
      generalize hrr : m.bits.tmod 8 = r at *
      by_cases n1 : r = 0
      case neg =>
        have f1 : (r != 0) = true := by simpa using n1
        rw [f1] at hld
        simp only [Bool.false_or, Bool.true_or, Bool.not_true, Bool.false_and] at hld
        have HLD := Lib.hid hld
        clear n0 n1 hld
        go_wp2_with fail
        refine wp_region_mix [.w, .l, .w, .w, .w, .l, .w, .w, .w, .w, .w, .w, .w, .w, .w, .w, .w, .l, .w, .w, .w, .w, .w, .l, .k, .w, .l, .w, .w, .w, .w] (by kernel_rfl) (by kernel_rfl) (fun w' => Blk w' w.heap.size 38 (tyVals t (.slice (some ⟨gm, om, none⟩) t.mem.length mc)) ∧ Blk w' wr.heap.size 42 #[nV m.name, .int .i64 m.type, .int .i64 m.bits]) ?_
        repeat (first
          | (refine mix_w1 ?_; go_big_quiet_step (fail); refine wpQuiet_nil ?_)
          | (refine mix_loadG hC (by simp [Region.wanted, yielded]) 3 (.tmp 35) rfl naInt ⟨wr.heap.size, 2, none⟩ (.int .i64 m.bits) rfl (fun w' hw' => by have h9 := Blk.cell hw'.2 2; exact h9) ?_; simp only [Act.put, List.setIfInBounds_toArray, List.set_cons_succ, List.set_cons_zero])
          | (refine mix_loadG hC (by simp [Region.wanted, yielded]) 3 (.tmp 39) rfl naInt ⟨wr.heap.size, 2, none⟩ (.int .i64 m.bits) rfl (fun w' hw' => by have h9 := Blk.cell hw'.2 2; exact h9) ?_; simp only [Act.put, List.setIfInBounds_toArray, List.set_cons_succ, List.set_cons_zero])
          | (refine mix_loadG hC (by simp [Region.wanted, yielded]) 3 (.tmp 51) rfl naInt ⟨w.heap.size, 2, none⟩ (.int .i64 t.size) rfl (fun w' hw' => by have h9 := Blk.cell hw'.1 2; exact h9) ?_; simp only [Act.put, List.setIfInBounds_toArray, List.set_cons_succ, List.set_cons_zero])
          | (refine mix_loadG hC (by simp [Region.wanted, yielded]) 3 (.tmp 57) rfl naInt ⟨wr.heap.size, 1, none⟩ (.int .i64 m.type) rfl (fun w' hw' => by have h9 := Blk.cell hw'.2 1; exact h9) ?_; simp only [Act.put, List.setIfInBounds_toArray, List.set_cons_succ, List.set_cons_zero])
          | (refine mix_loadG hC (by simp [Region.wanted, yielded]) 3 (.tmp 60) rfl naInt ⟨w.heap.size, 2, none⟩ (.int .i64 t.size) rfl (fun w' hw' => by have h9 := Blk.cell hw'.1 2; exact h9) ?_; simp only [Act.put, List.setIfInBounds_toArray, List.set_cons_succ, List.set_cons_zero])
          | (refine mix_l1 hC ?_; go_big_quiet_step (fail); refine wpQuiet_nil ?_))
        refine mix_k hC fun Q' hQ' => ?_
        go_wp2_with fail
        refine hQ' _ _ hC ?_
        clear hQ' Q'
        repeat (first
          | (refine mix_w1 ?_; go_big_quiet_step (fail); refine wpQuiet_nil ?_)
          | (refine mix_loadG hC (by simp [Region.wanted, yielded]) 3 (.tmp 35) rfl naInt ⟨wr.heap.size, 2, none⟩ (.int .i64 m.bits) rfl (fun w' hw' => by have h9 := Blk.cell hw'.2 2; exact h9) ?_; simp only [Act.put, List.setIfInBounds_toArray, List.set_cons_succ, List.set_cons_zero])
          | (refine mix_loadG hC (by simp [Region.wanted, yielded]) 3 (.tmp 39) rfl naInt ⟨wr.heap.size, 2, none⟩ (.int .i64 m.bits) rfl (fun w' hw' => by have h9 := Blk.cell hw'.2 2; exact h9) ?_; simp only [Act.put, List.setIfInBounds_toArray, List.set_cons_succ, List.set_cons_zero])
          | (refine mix_loadG hC (by simp [Region.wanted, yielded]) 3 (.tmp 51) rfl naInt ⟨w.heap.size, 2, none⟩ (.int .i64 t.size) rfl (fun w' hw' => by have h9 := Blk.cell hw'.1 2; exact h9) ?_; simp only [Act.put, List.setIfInBounds_toArray, List.set_cons_succ, List.set_cons_zero])
          | (refine mix_loadG hC (by simp [Region.wanted, yielded]) 3 (.tmp 57) rfl naInt ⟨wr.heap.size, 1, none⟩ (.int .i64 m.type) rfl (fun w' hw' => by have h9 := Blk.cell hw'.2 1; exact h9) ?_; simp only [Act.put, List.setIfInBounds_toArray, List.set_cons_succ, List.set_cons_zero])
          | (refine mix_loadG hC (by simp [Region.wanted, yielded]) 3 (.tmp 60) rfl naInt ⟨w.heap.size, 2, none⟩ (.int .i64 t.size) rfl (fun w' hw' => by have h9 := Blk.cell hw'.1 2; exact h9) ?_; simp only [Act.put, List.setIfInBounds_toArray, List.set_cons_succ, List.set_cons_zero])
          | (refine mix_l1 hC ?_; go_big_quiet_step (fail); refine wpQuiet_nil ?_))
        refine mix_done ?_
        go_wp2_with fail
        go_ret
        exact ⟨by rw [HL.out, ← HLD.out]; rfl, by first | exact (hK.trans hkB (fun _ _ h => h)).drew | exact hK.trans hkB (fun _ _ h => h)⟩
      have f1 : (r != 0) = false := by simpa using n1
      rw [f1] at hld
      by_cases n2 : q < en
      · have f2 : decide (q < en) = true := decide_eq_true n2
        rw [f2] at hld
        simp only [Bool.false_or, Bool.true_or, Bool.not_true, Bool.false_and] at hld
        have HLD := Lib.hid hld
        clear n0 n1 n2 hld
        go_wp2_with fail
        refine wp_region_mix [.w, .l, .w, .w, .w, .l, .w, .w, .w, .w, .w, .w, .w, .w, .w, .w, .w, .l, .w, .w, .w, .w, .w, .l, .k, .w, .l, .w, .w, .w, .w] (by kernel_rfl) (by kernel_rfl) (fun w' => Blk w' w.heap.size 38 (tyVals t (.slice (some ⟨gm, om, none⟩) t.mem.length mc)) ∧ Blk w' wr.heap.size 42 #[nV m.name, .int .i64 m.type, .int .i64 m.bits]) ?_
        repeat (first
          | (refine mix_w1 ?_; go_big_quiet_step (fail); refine wpQuiet_nil ?_)
          | (refine mix_loadG hC (by simp [Region.wanted, yielded]) 3 (.tmp 35) rfl naInt ⟨wr.heap.size, 2, none⟩ (.int .i64 m.bits) rfl (fun w' hw' => by have h9 := Blk.cell hw'.2 2; exact h9) ?_; simp only [Act.put, List.setIfInBounds_toArray, List.set_cons_succ, List.set_cons_zero])
          | (refine mix_loadG hC (by simp [Region.wanted, yielded]) 3 (.tmp 39) rfl naInt ⟨wr.heap.size, 2, none⟩ (.int .i64 m.bits) rfl (fun w' hw' => by have h9 := Blk.cell hw'.2 2; exact h9) ?_; simp only [Act.put, List.setIfInBounds_toArray, List.set_cons_succ, List.set_cons_zero])
          | (refine mix_loadG hC (by simp [Region.wanted, yielded]) 3 (.tmp 51) rfl naInt ⟨w.heap.size, 2, none⟩ (.int .i64 t.size) rfl (fun w' hw' => by have h9 := Blk.cell hw'.1 2; exact h9) ?_; simp only [Act.put, List.setIfInBounds_toArray, List.set_cons_succ, List.set_cons_zero])
          | (refine mix_loadG hC (by simp [Region.wanted, yielded]) 3 (.tmp 57) rfl naInt ⟨wr.heap.size, 1, none⟩ (.int .i64 m.type) rfl (fun w' hw' => by have h9 := Blk.cell hw'.2 1; exact h9) ?_; simp only [Act.put, List.setIfInBounds_toArray, List.set_cons_succ, List.set_cons_zero])
          | (refine mix_loadG hC (by simp [Region.wanted, yielded]) 3 (.tmp 60) rfl naInt ⟨w.heap.size, 2, none⟩ (.int .i64 t.size) rfl (fun w' hw' => by have h9 := Blk.cell hw'.1 2; exact h9) ?_; simp only [Act.put, List.setIfInBounds_toArray, List.set_cons_succ, List.set_cons_zero])
          | (refine mix_l1 hC ?_; go_big_quiet_step (fail); refine wpQuiet_nil ?_))
        refine mix_k hC fun Q' hQ' => ?_
        go_wp2_with fail
        refine hQ' _ _ hC ?_
        clear hQ' Q'
        repeat (first
          | (refine mix_w1 ?_; go_big_quiet_step (fail); refine wpQuiet_nil ?_)
          | (refine mix_loadG hC (by simp [Region.wanted, yielded]) 3 (.tmp 35) rfl naInt ⟨wr.heap.size, 2, none⟩ (.int .i64 m.bits) rfl (fun w' hw' => by have h9 := Blk.cell hw'.2 2; exact h9) ?_; simp only [Act.put, List.setIfInBounds_toArray, List.set_cons_succ, List.set_cons_zero])
          | (refine mix_loadG hC (by simp [Region.wanted, yielded]) 3 (.tmp 39) rfl naInt ⟨wr.heap.size, 2, none⟩ (.int .i64 m.bits) rfl (fun w' hw' => by have h9 := Blk.cell hw'.2 2; exact h9) ?_; simp only [Act.put, List.setIfInBounds_toArray, List.set_cons_succ, List.set_cons_zero])
          | (refine mix_loadG hC (by simp [Region.wanted, yielded]) 3 (.tmp 51) rfl naInt ⟨w.heap.size, 2, none⟩ (.int .i64 t.size) rfl (fun w' hw' => by have h9 := Blk.cell hw'.1 2; exact h9) ?_; simp only [Act.put, List.setIfInBounds_toArray, List.set_cons_succ, List.set_cons_zero])
          | (refine mix_loadG hC (by simp [Region.wanted, yielded]) 3 (.tmp 57) rfl naInt ⟨wr.heap.size, 1, none⟩ (.int .i64 m.type) rfl (fun w' hw' => by have h9 := Blk.cell hw'.2 1; exact h9) ?_; simp only [Act.put, List.setIfInBounds_toArray, List.set_cons_succ, List.set_cons_zero])
          | (refine mix_loadG hC (by simp [Region.wanted, yielded]) 3 (.tmp 60) rfl naInt ⟨w.heap.size, 2, none⟩ (.int .i64 t.size) rfl (fun w' hw' => by have h9 := Blk.cell hw'.1 2; exact h9) ?_; simp only [Act.put, List.setIfInBounds_toArray, List.set_cons_succ, List.set_cons_zero])
          | (refine mix_l1 hC ?_; go_big_quiet_step (fail); refine wpQuiet_nil ?_))
        refine mix_done ?_
        go_wp2_with fail
        go_ret
        exact ⟨by rw [HL.out, ← HLD.out]; rfl, by first | exact (hK.trans hkB (fun _ _ h => h)).drew | exact hK.trans hkB (fun _ _ h => h)⟩
      have f2 : decide (q < en) = false := decide_eq_false n2
      rw [f2] at hld
      by_cases n3 : t.size < q
      · have f3 : decide (t.size < q) = true := decide_eq_true n3
        rw [f3] at hld
        simp only [Bool.false_or, Bool.true_or, Bool.not_true, Bool.false_and] at hld
        have HLD := Lib.hid hld
        clear n0 n1 n2 n3 hld
        go_wp2_with fail
        refine wp_region_mix [.w, .l, .w, .w, .w, .l, .w, .w, .w, .w, .w, .w, .w, .w, .w, .w, .w, .l, .w, .w, .w, .w, .w, .l, .k, .w, .l, .w, .w, .w, .w] (by kernel_rfl) (by kernel_rfl) (fun w' => Blk w' w.heap.size 38 (tyVals t (.slice (some ⟨gm, om, none⟩) t.mem.length mc)) ∧ Blk w' wr.heap.size 42 #[nV m.name, .int .i64 m.type, .int .i64 m.bits]) ?_
        repeat (first
          | (refine mix_w1 ?_; go_big_quiet_step (fail); refine wpQuiet_nil ?_)
          | (refine mix_loadG hC (by simp [Region.wanted, yielded]) 3 (.tmp 35) rfl naInt ⟨wr.heap.size, 2, none⟩ (.int .i64 m.bits) rfl (fun w' hw' => by have h9 := Blk.cell hw'.2 2; exact h9) ?_; simp only [Act.put, List.setIfInBounds_toArray, List.set_cons_succ, List.set_cons_zero])
          | (refine mix_loadG hC (by simp [Region.wanted, yielded]) 3 (.tmp 39) rfl naInt ⟨wr.heap.size, 2, none⟩ (.int .i64 m.bits) rfl (fun w' hw' => by have h9 := Blk.cell hw'.2 2; exact h9) ?_; simp only [Act.put, List.setIfInBounds_toArray, List.set_cons_succ, List.set_cons_zero])
          | (refine mix_loadG hC (by simp [Region.wanted, yielded]) 3 (.tmp 51) rfl naInt ⟨w.heap.size, 2, none⟩ (.int .i64 t.size) rfl (fun w' hw' => by have h9 := Blk.cell hw'.1 2; exact h9) ?_; simp only [Act.put, List.setIfInBounds_toArray, List.set_cons_succ, List.set_cons_zero])
          | (refine mix_loadG hC (by simp [Region.wanted, yielded]) 3 (.tmp 57) rfl naInt ⟨wr.heap.size, 1, none⟩ (.int .i64 m.type) rfl (fun w' hw' => by have h9 := Blk.cell hw'.2 1; exact h9) ?_; simp only [Act.put, List.setIfInBounds_toArray, List.set_cons_succ, List.set_cons_zero])
          | (refine mix_loadG hC (by simp [Region.wanted, yielded]) 3 (.tmp 60) rfl naInt ⟨w.heap.size, 2, none⟩ (.int .i64 t.size) rfl (fun w' hw' => by have h9 := Blk.cell hw'.1 2; exact h9) ?_; simp only [Act.put, List.setIfInBounds_toArray, List.set_cons_succ, List.set_cons_zero])
          | (refine mix_l1 hC ?_; go_big_quiet_step (fail); refine wpQuiet_nil ?_))
        refine mix_k hC fun Q' hQ' => ?_
        go_wp2_with fail
        refine hQ' _ _ hC ?_
        clear hQ' Q'
        repeat (first
          | (refine mix_w1 ?_; go_big_quiet_step (fail); refine wpQuiet_nil ?_)
          | (refine mix_loadG hC (by simp [Region.wanted, yielded]) 3 (.tmp 35) rfl naInt ⟨wr.heap.size, 2, none⟩ (.int .i64 m.bits) rfl (fun w' hw' => by have h9 := Blk.cell hw'.2 2; exact h9) ?_; simp only [Act.put, List.setIfInBounds_toArray, List.set_cons_succ, List.set_cons_zero])
          | (refine mix_loadG hC (by simp [Region.wanted, yielded]) 3 (.tmp 39) rfl naInt ⟨wr.heap.size, 2, none⟩ (.int .i64 m.bits) rfl (fun w' hw' => by have h9 := Blk.cell hw'.2 2; exact h9) ?_; simp only [Act.put, List.setIfInBounds_toArray, List.set_cons_succ, List.set_cons_zero])
          | (refine mix_loadG hC (by simp [Region.wanted, yielded]) 3 (.tmp 51) rfl naInt ⟨w.heap.size, 2, none⟩ (.int .i64 t.size) rfl (fun w' hw' => by have h9 := Blk.cell hw'.1 2; exact h9) ?_; simp only [Act.put, List.setIfInBounds_toArray, List.set_cons_succ, List.set_cons_zero])
          | (refine mix_loadG hC (by simp [Region.wanted, yielded]) 3 (.tmp 57) rfl naInt ⟨wr.heap.size, 1, none⟩ (.int .i64 m.type) rfl (fun w' hw' => by have h9 := Blk.cell hw'.2 1; exact h9) ?_; simp only [Act.put, List.setIfInBounds_toArray, List.set_cons_succ, List.set_cons_zero])
          | (refine mix_loadG hC (by simp [Region.wanted, yielded]) 3 (.tmp 60) rfl naInt ⟨w.heap.size, 2, none⟩ (.int .i64 t.size) rfl (fun w' hw' => by have h9 := Blk.cell hw'.1 2; exact h9) ?_; simp only [Act.put, List.setIfInBounds_toArray, List.set_cons_succ, List.set_cons_zero])
          | (refine mix_l1 hC ?_; go_big_quiet_step (fail); refine wpQuiet_nil ?_))
        refine mix_done ?_
        go_wp2_with fail
        go_ret
        exact ⟨by rw [HL.out, ← HLD.out]; rfl, by first | exact (hK.trans hkB (fun _ _ h => h)).drew | exact hK.trans hkB (fun _ _ h => h)⟩
      have f3 : decide (t.size < q) = false := decide_eq_false n3
      rw [f3] at hld
      simp only [Bool.false_or] at hld
      obtain ⟨k, hk⟩ : ∃ k : Nat, m.type = (k : Int) + 1 := ⟨(m.type - 1).toNat, by omega⟩
      have hsr := hg.size_range (rk l m.type + 1) m.type (by omega) hm1 hm2
      have IH := Lib.hid (show ∀ W, Tys W (.slice (some ⟨g, off, none⟩) l.length c) l → Calls Tryd.prog 24 #[.slice (some ⟨g, off, none⟩) l.length c, .int .i64 m.type] W (fun e w' => e = .returned (.int .i64 (sizeL l m.type)) ∧ Kept (fun _ => False) W w') from fun W hW => by
        rw [hk]
        exact size_ih l (some ⟨g, off, none⟩) c hg (rk l ((k : Int) + 1) + 1) k W hW (by omega) (by omega))
      clear hk
      go_wp2_with fail
      refine wp_region_mix [.w, .l, .w, .w, .w, .l, .w, .w, .w, .w, .w, .w, .w, .w, .w, .w, .w, .l, .w, .w, .w, .w, .w, .l, .k, .w, .l, .w, .w, .w, .w] (by kernel_rfl) (by kernel_rfl) (fun w' => Blk w' w.heap.size 38 (tyVals t (.slice (some ⟨gm, om, none⟩) t.mem.length mc)) ∧ Blk w' wr.heap.size 42 #[nV m.name, .int .i64 m.type, .int .i64 m.bits]) ?_
      repeat (first
        | (refine mix_w1 ?_; go_big_quiet_step (fail); refine wpQuiet_nil ?_)
        | (refine mix_loadG hC (by simp [Region.wanted, yielded]) 3 (.tmp 35) rfl naInt ⟨wr.heap.size, 2, none⟩ (.int .i64 m.bits) rfl (fun w' hw' => by have h9 := Blk.cell hw'.2 2; exact h9) ?_; simp only [Act.put, List.setIfInBounds_toArray, List.set_cons_succ, List.set_cons_zero])
        | (refine mix_loadG hC (by simp [Region.wanted, yielded]) 3 (.tmp 39) rfl naInt ⟨wr.heap.size, 2, none⟩ (.int .i64 m.bits) rfl (fun w' hw' => by have h9 := Blk.cell hw'.2 2; exact h9) ?_; simp only [Act.put, List.setIfInBounds_toArray, List.set_cons_succ, List.set_cons_zero])
        | (refine mix_loadG hC (by simp [Region.wanted, yielded]) 3 (.tmp 51) rfl naInt ⟨w.heap.size, 2, none⟩ (.int .i64 t.size) rfl (fun w' hw' => by have h9 := Blk.cell hw'.1 2; exact h9) ?_; simp only [Act.put, List.setIfInBounds_toArray, List.set_cons_succ, List.set_cons_zero])
        | (refine mix_loadG hC (by simp [Region.wanted, yielded]) 3 (.tmp 57) rfl naInt ⟨wr.heap.size, 1, none⟩ (.int .i64 m.type) rfl (fun w' hw' => by have h9 := Blk.cell hw'.2 1; exact h9) ?_; simp only [Act.put, List.setIfInBounds_toArray, List.set_cons_succ, List.set_cons_zero])
        | (refine mix_loadG hC (by simp [Region.wanted, yielded]) 3 (.tmp 60) rfl naInt ⟨w.heap.size, 2, none⟩ (.int .i64 t.size) rfl (fun w' hw' => by have h9 := Blk.cell hw'.1 2; exact h9) ?_; simp only [Act.put, List.setIfInBounds_toArray, List.set_cons_succ, List.set_cons_zero])
        | (refine mix_l1 hC ?_; go_big_quiet_step (fail); refine wpQuiet_nil ?_))
      refine mix_k hC fun Q' hQ' => ?_
      go_wp2_with fail
      refine (IH.out _ (((h.kept hK).kept hkB).kept ((Kept.refl _ _).drew))).mono ?_
      rintro e w2 ⟨rfl, hk2'⟩
      have hB2 := hk2'.blk (fun h => h) hC.1
      have hBm2 := hk2'.blk (fun h => h) hC.2
      have hK2 := ((hK.trans hkB (fun _ _ h => h)).drew).trans hk2' (fun _ _ h => h)
      go_wp2_with fail
      refine hQ' _ _ ⟨hB2, hBm2⟩ ?_
      clear hQ' Q' hC
      have hC := And.intro hB2 hBm2
      by_cases n4 : t.size - q < sizeL l m.type
      · have f4 : decide (t.size - q < sizeL l m.type) = true := decide_eq_true n4
        rw [f4] at hld
        simp only [Bool.not_true, Bool.false_and] at hld
        have HLD := Lib.hid hld
        clear hld
        repeat (first
          | (refine mix_w1 ?_; go_big_quiet_step (fail); refine wpQuiet_nil ?_)
          | (refine mix_loadG hC (by simp [Region.wanted, yielded]) 3 (.tmp 35) rfl naInt ⟨wr.heap.size, 2, none⟩ (.int .i64 m.bits) rfl (fun w' hw' => by have h9 := Blk.cell hw'.2 2; exact h9) ?_; simp only [Act.put, List.setIfInBounds_toArray, List.set_cons_succ, List.set_cons_zero])
          | (refine mix_loadG hC (by simp [Region.wanted, yielded]) 3 (.tmp 39) rfl naInt ⟨wr.heap.size, 2, none⟩ (.int .i64 m.bits) rfl (fun w' hw' => by have h9 := Blk.cell hw'.2 2; exact h9) ?_; simp only [Act.put, List.setIfInBounds_toArray, List.set_cons_succ, List.set_cons_zero])
          | (refine mix_loadG hC (by simp [Region.wanted, yielded]) 3 (.tmp 51) rfl naInt ⟨w.heap.size, 2, none⟩ (.int .i64 t.size) rfl (fun w' hw' => by have h9 := Blk.cell hw'.1 2; exact h9) ?_; simp only [Act.put, List.setIfInBounds_toArray, List.set_cons_succ, List.set_cons_zero])
          | (refine mix_loadG hC (by simp [Region.wanted, yielded]) 3 (.tmp 57) rfl naInt ⟨wr.heap.size, 1, none⟩ (.int .i64 m.type) rfl (fun w' hw' => by have h9 := Blk.cell hw'.2 1; exact h9) ?_; simp only [Act.put, List.setIfInBounds_toArray, List.set_cons_succ, List.set_cons_zero])
          | (refine mix_loadG hC (by simp [Region.wanted, yielded]) 3 (.tmp 60) rfl naInt ⟨w.heap.size, 2, none⟩ (.int .i64 t.size) rfl (fun w' hw' => by have h9 := Blk.cell hw'.1 2; exact h9) ?_; simp only [Act.put, List.setIfInBounds_toArray, List.set_cons_succ, List.set_cons_zero])
          | (refine mix_l1 hC ?_; go_big_quiet_step (fail); refine wpQuiet_nil ?_))
        refine mix_done ?_
        go_wp2_with fail
        go_ret
        exact ⟨by rw [HL.out, ← HLD.out]; rfl, hK2⟩
      have f4 : decide (t.size - q < sizeL l m.type) = false := decide_eq_false n4
      rw [f4] at hld
      simp only [Bool.not_false, Bool.true_and] at hld
      repeat (first
        | (refine mix_w1 ?_; go_big_quiet_step (fail); refine wpQuiet_nil ?_)
        | (refine mix_loadG hC (by simp [Region.wanted, yielded]) 3 (.tmp 35) rfl naInt ⟨wr.heap.size, 2, none⟩ (.int .i64 m.bits) rfl (fun w' hw' => by have h9 := Blk.cell hw'.2 2; exact h9) ?_; simp only [Act.put, List.setIfInBounds_toArray, List.set_cons_succ, List.set_cons_zero])
        | (refine mix_loadG hC (by simp [Region.wanted, yielded]) 3 (.tmp 39) rfl naInt ⟨wr.heap.size, 2, none⟩ (.int .i64 m.bits) rfl (fun w' hw' => by have h9 := Blk.cell hw'.2 2; exact h9) ?_; simp only [Act.put, List.setIfInBounds_toArray, List.set_cons_succ, List.set_cons_zero])
        | (refine mix_loadG hC (by simp [Region.wanted, yielded]) 3 (.tmp 51) rfl naInt ⟨w.heap.size, 2, none⟩ (.int .i64 t.size) rfl (fun w' hw' => by have h9 := Blk.cell hw'.1 2; exact h9) ?_; simp only [Act.put, List.setIfInBounds_toArray, List.set_cons_succ, List.set_cons_zero])
        | (refine mix_loadG hC (by simp [Region.wanted, yielded]) 3 (.tmp 57) rfl naInt ⟨wr.heap.size, 1, none⟩ (.int .i64 m.type) rfl (fun w' hw' => by have h9 := Blk.cell hw'.2 1; exact h9) ?_; simp only [Act.put, List.setIfInBounds_toArray, List.set_cons_succ, List.set_cons_zero])
        | (refine mix_loadG hC (by simp [Region.wanted, yielded]) 3 (.tmp 60) rfl naInt ⟨w.heap.size, 2, none⟩ (.int .i64 t.size) rfl (fun w' hw' => by have h9 := Blk.cell hw'.1 2; exact h9) ?_; simp only [Act.put, List.setIfInBounds_toArray, List.set_cons_succ, List.set_cons_zero])
        | (refine mix_l1 hC ?_; go_big_quiet_step (fail); refine wpQuiet_nil ?_))
      refine mix_done ?_
      have hcm := hBm2.cell
      go_wp2_with fail
      refine (IH.out _ (((h.kept hK2)))).mono ?_
      rintro e w3 ⟨rfl, hk3⟩
      go_wp2_with fail
      exact ⟨⟨j + 1, q + sizeL l m.type, by go_num, rfl, by omega, by omega, by omega, hld, hk3.blk (fun h => h) hB2, hK2.trans hk3 (fun _ _ h => h)⟩, by simp [intOf]; omega⟩

end Go.Proofs.YtmgdjiplpfeoiaaDoor

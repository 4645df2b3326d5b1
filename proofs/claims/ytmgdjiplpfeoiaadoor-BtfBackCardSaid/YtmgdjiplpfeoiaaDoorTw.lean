import Derived.Test.YtmgdjiplpfeoiaaDoorTz
import Derived.Test.YtmgdjiplpfeoiaaDoorMh
set_option linter.unusedSimpArgs false
set_option linter.unusedVariables false
namespace Go.Proofs.YtmgdjiplpfeoiaaDoor
open Go.RowKit

theorem naInt : ∀ w, (isAgg 3).run Tryd.prog w = .ok false w := fun w => by kernel_rfl
theorem naBool : ∀ w, (isAgg 4).run Tryd.prog w = .ok false w := fun w => by kernel_rfl

set_option maxHeartbeats 40000000 in
set_option maxRecDepth 100000 in
theorem whole_any (t : Ty) (n : Int) (ma : Option Addr) (mc : Nat) (w : World) (hm : Mbs w (.slice ma t.mem.length mc) t.mem) (h64 : t.mem.length ≤ 64) :
    Calls Tryd.prog 55 #[.agg (tyVals t (.slice ma t.mem.length mc)), .int .i64 n] w fun e w' => e = .returned (.bool (wholeB t n)) ∧ Kept (fun _ => False) w w' := by
  obtain ⟨kind, name, size, signed, to, count, mem⟩ := t
  simp only at hm h64
  unfold wholeB
  simp only
  by_cases k3 : kind = 3
  · as_aux_lemma =>
    subst k3
    have hB0 : ∀ B, Blk ((w.alloc (.cells (tyVals ⟨3, name, size, signed, to, count, mem⟩ (.slice ma mem.length mc)) 38)).alloc (.cells B 38)) w.heap.size 38 (tyVals ⟨3, name, size, signed, to, count, mem⟩ (.slice ma mem.length mc)) := fun B => ((Kept.refl (fun _ => False) _).alloc _).blk (fun h => h) (Blk.new w _ _)
    have hB1 : ∀ B, Blk ((w.alloc (.cells (tyVals ⟨3, name, size, signed, to, count, mem⟩ (.slice ma mem.length mc)) 38)).alloc (.cells B 38)) (w.heap.size + 1) 38 B := fun B => by
      have := Blk.new (w.alloc (.cells (tyVals ⟨3, name, size, signed, to, count, mem⟩ (.slice ma mem.length mc)) 38)) 38 B
      rw [alloc_size] at this
      exact this
    have hKA : ∀ B, Kept (fun _ => False) w ((w.alloc (.cells (tyVals ⟨3, name, size, signed, to, count, mem⟩ (.slice ma mem.length mc)) 38)).alloc (.cells B 38)) := fun B => ((Kept.refl _ w).alloc _).alloc _
    go_enter Tryd.func55, Tryd.ntmps55
    go_wp2
    go_loopw [46] (fun iv wr => ∃ i : Nat, iv = .int .i64 i ∧ i ≤ mem.length ∧ (mem.take i).all (memIn 3 n) = true ∧ Blk wr w.heap.size 38 (tyVals ⟨3, name, size, signed, to, count, mem⟩ (.slice ma mem.length mc)) ∧
      Blk wr (w.heap.size + 1) 38 #[.int .i64 0, nV [], .int .i64 0, .bool false, .int .i64 0, .int .i64 count, .slice none 0 0] ∧ Kept (fun _ => False) w wr) (fun iv _ => mem.length - (intOf iv).toNat)
    case atStart => exact ⟨0, rfl, Nat.zero_le _, by simp, hB0 _, hB1 _, hKA _⟩
    case round =>
      obtain ⟨i, rfl, hi, hall, hb0, hb1, hK⟩ := hrel
      by_cases hlt : i < mem.length
      case neg =>
        obtain rfl : i = mem.length := by omega
        rw [List.take_length] at hall
        have hc0 := hb0.cell
        have hc1 := hb1.cell
        clear hb0 hb1
        go_wp2
        all_goals go_ret
        all_goals (refine ⟨?_, hK⟩)
        all_goals (show Ending.returned (Value.bool _) = Ending.returned (Value.bool _))
        all_goals (refine congrArg (fun b => Ending.returned (Value.bool b)) ?_)
        all_goals (try rw [hall])
        all_goals (rw [Bool.eq_iff_iff])
        all_goals (try simp [leastC, mostC])
        all_goals (try omega)
      case pos =>
        obtain ⟨m, hmi⟩ : ∃ m, mem[i]? = some m := ⟨_, List.getElem?_eq_getElem hlt⟩
        obtain ⟨g, off, rfl, hg, c0, c1, c2⟩ := (hm.kept hK).at_ hmi
        have hnext : ((mem.take (i + 1)).all (memIn 3 n)) = memIn 3 n m := by rw [List.take_add_one, hmi, List.all_append, hall]; simp
        have hbad : memIn 3 n m = false → mem.all (memIn 3 n) = false := fun h => by
          rw [List.all_eq_false]
          exact ⟨m, List.mem_of_getElem? hmi, by rw [h]; simp⟩
        have hk0 : wr.cell? ⟨w.heap.size, 0, none⟩ = some (.int .i64 3) := by rw [hb0.cell]; rfl
        have hl0 := hb0.lt
        have hkA := (Kept.refl (fun _ => False) wr).alloc (.cells #[nV m.name, .int .i64 m.type, .int .i64 m.bits] 42)
        by_cases h1 : m.type < 1
        · have hf : memIn 3 n m = false := by unfold memIn; simp; omega
          have hbb := hbad hf
          go_wp2
          go_ret
          exact ⟨by first | rfl | (rw [hbb]; rfl), hK.alloc _⟩
        by_cases h2 : n < m.type
        · have hf : memIn 3 n m = false := by unfold memIn; simp; omega
          have hbb := hbad hf
          go_wp2
          go_ret
          exact ⟨by first | rfl | (rw [hbb]; rfl), hK.alloc _⟩
        have hf : memIn 3 n m = true := by unfold memIn; simp; omega
        rw [hf] at hnext
        go_wp2
        exact ⟨⟨i + 1, by go_num, by omega, hnext, hkA.blk (fun h => h) hb0, hkA.blk (fun h => h) hb1, hK.alloc _⟩, by simp [intOf]; omega⟩
  by_cases k2 : kind = 2
  · as_aux_lemma =>
    subst k2
    have hB0 : ∀ B, Blk ((w.alloc (.cells (tyVals ⟨2, name, size, signed, to, count, mem⟩ (.slice ma mem.length mc)) 38)).alloc (.cells B 38)) w.heap.size 38 (tyVals ⟨2, name, size, signed, to, count, mem⟩ (.slice ma mem.length mc)) := fun B => ((Kept.refl (fun _ => False) _).alloc _).blk (fun h => h) (Blk.new w _ _)
    have hB1 : ∀ B, Blk ((w.alloc (.cells (tyVals ⟨2, name, size, signed, to, count, mem⟩ (.slice ma mem.length mc)) 38)).alloc (.cells B 38)) (w.heap.size + 1) 38 B := fun B => by
      have := Blk.new (w.alloc (.cells (tyVals ⟨2, name, size, signed, to, count, mem⟩ (.slice ma mem.length mc)) 38)) 38 B
      rw [alloc_size] at this
      exact this
    have hKA : ∀ B, Kept (fun _ => False) w ((w.alloc (.cells (tyVals ⟨2, name, size, signed, to, count, mem⟩ (.slice ma mem.length mc)) 38)).alloc (.cells B 38)) := fun B => ((Kept.refl _ w).alloc _).alloc _
    go_enter Tryd.func55, Tryd.ntmps55
    go_wp2
    go_loopw [46] (fun iv wr => ∃ i : Nat, iv = .int .i64 i ∧ i ≤ mem.length ∧ (mem.take i).all (memIn 2 n) = true ∧ Blk wr w.heap.size 38 (tyVals ⟨2, name, size, signed, to, count, mem⟩ (.slice ma mem.length mc)) ∧
      Blk wr (w.heap.size + 1) 38 #[.int .i64 0, nV [], .int .i64 0, .bool false, .int .i64 0, .int .i64 0, .slice none 0 0] ∧ Kept (fun _ => False) w wr) (fun iv _ => mem.length - (intOf iv).toNat)
    case atStart => exact ⟨0, rfl, Nat.zero_le _, by simp, hB0 _, hB1 _, hKA _⟩
    case round =>
      obtain ⟨i, rfl, hi, hall, hb0, hb1, hK⟩ := hrel
      by_cases hlt : i < mem.length
      case neg =>
        obtain rfl : i = mem.length := by omega
        rw [List.take_length] at hall
        have hc0 := hb0.cell
        have hc1 := hb1.cell
        clear hb0 hb1
        go_wp2
        all_goals go_ret
        all_goals (refine ⟨?_, hK⟩)
        all_goals (show Ending.returned (Value.bool _) = Ending.returned (Value.bool _))
        all_goals (refine congrArg (fun b => Ending.returned (Value.bool b)) ?_)
        all_goals (try rw [hall])
        all_goals (rw [Bool.eq_iff_iff])
        all_goals (try simp [leastC, mostC])
        all_goals (try omega)
      case pos =>
        obtain ⟨m, hmi⟩ : ∃ m, mem[i]? = some m := ⟨_, List.getElem?_eq_getElem hlt⟩
        obtain ⟨g, off, rfl, hg, c0, c1, c2⟩ := (hm.kept hK).at_ hmi
        have hnext : ((mem.take (i + 1)).all (memIn 2 n)) = memIn 2 n m := by rw [List.take_add_one, hmi, List.all_append, hall]; simp
        have hbad : memIn 2 n m = false → mem.all (memIn 2 n) = false := fun h => by
          rw [List.all_eq_false]
          exact ⟨m, List.mem_of_getElem? hmi, by rw [h]; simp⟩
        have hk0 : wr.cell? ⟨w.heap.size, 0, none⟩ = some (.int .i64 2) := by rw [hb0.cell]; rfl
        have hl0 := hb0.lt
        have hkA := (Kept.refl (fun _ => False) wr).alloc (.cells #[nV m.name, .int .i64 m.type, .int .i64 m.bits] 42)
        by_cases h1 : m.type < 1
        · have hf : memIn 2 n m = false := by unfold memIn; simp; omega
          have hbb := hbad hf
          go_wp2
          go_ret
          exact ⟨by first | rfl | (rw [hbb]; rfl), hK.alloc _⟩
        by_cases h2 : n < m.type
        · have hf : memIn 2 n m = false := by unfold memIn; simp; omega
          have hbb := hbad hf
          go_wp2
          go_ret
          exact ⟨by first | rfl | (rw [hbb]; rfl), hK.alloc _⟩
        have hf : memIn 2 n m = true := by unfold memIn; simp; omega
        rw [hf] at hnext
        go_wp2
        exact ⟨⟨i + 1, by go_num, by omega, hnext, hkA.blk (fun h => h) hb0, hkA.blk (fun h => h) hb1, hK.alloc _⟩, by simp [intOf]; omega⟩
  by_cases k6 : kind = 6
  · as_aux_lemma =>
    subst k6
    have hB0 : ∀ B, Blk ((w.alloc (.cells (tyVals ⟨6, name, size, signed, to, count, mem⟩ (.slice ma mem.length mc)) 38)).alloc (.cells B 38)) w.heap.size 38 (tyVals ⟨6, name, size, signed, to, count, mem⟩ (.slice ma mem.length mc)) := fun B => ((Kept.refl (fun _ => False) _).alloc _).blk (fun h => h) (Blk.new w _ _)
    have hB1 : ∀ B, Blk ((w.alloc (.cells (tyVals ⟨6, name, size, signed, to, count, mem⟩ (.slice ma mem.length mc)) 38)).alloc (.cells B 38)) (w.heap.size + 1) 38 B := fun B => by
      have := Blk.new (w.alloc (.cells (tyVals ⟨6, name, size, signed, to, count, mem⟩ (.slice ma mem.length mc)) 38)) 38 B
      rw [alloc_size] at this
      exact this
    have hKA : ∀ B, Kept (fun _ => False) w ((w.alloc (.cells (tyVals ⟨6, name, size, signed, to, count, mem⟩ (.slice ma mem.length mc)) 38)).alloc (.cells B 38)) := fun B => ((Kept.refl _ w).alloc _).alloc _
    go_enter Tryd.func55, Tryd.ntmps55
    go_wp2
    go_loopw [46] (fun iv wr => ∃ i : Nat, iv = .int .i64 i ∧ i ≤ mem.length ∧ (mem.take i).all (memIn 6 n) = true ∧ Blk wr w.heap.size 38 (tyVals ⟨6, name, size, signed, to, count, mem⟩ (.slice ma mem.length mc)) ∧
      Blk wr (w.heap.size + 1) 38 #[.int .i64 0, nV [], .int .i64 0, .bool false, .int .i64 0, .int .i64 0, .slice ma mem.length mc] ∧ Kept (fun _ => False) w wr) (fun iv _ => mem.length - (intOf iv).toNat)
    case atStart => exact ⟨0, rfl, Nat.zero_le _, by simp, hB0 _, hB1 _, hKA _⟩
    case round =>
      obtain ⟨i, rfl, hi, hall, hb0, hb1, hK⟩ := hrel
      by_cases hlt : i < mem.length
      case neg =>
        obtain rfl : i = mem.length := by omega
        rw [List.take_length] at hall
        have hc0 := hb0.cell
        have hc1 := hb1.cell
        clear hb0 hb1
        go_wp2
        all_goals go_ret
        all_goals (refine ⟨?_, hK⟩)
        all_goals (show Ending.returned (Value.bool _) = Ending.returned (Value.bool _))
        all_goals (refine congrArg (fun b => Ending.returned (Value.bool b)) ?_)
        all_goals (try rw [hall])
        all_goals (rw [Bool.eq_iff_iff])
        all_goals (try simp [leastC, mostC])
        all_goals (try omega)
      case pos =>
        obtain ⟨m, hmi⟩ : ∃ m, mem[i]? = some m := ⟨_, List.getElem?_eq_getElem hlt⟩
        obtain ⟨g, off, rfl, hg, c0, c1, c2⟩ := (hm.kept hK).at_ hmi
        have hnext : ((mem.take (i + 1)).all (memIn 6 n)) = memIn 6 n m := by rw [List.take_add_one, hmi, List.all_append, hall]; simp
        have hbad : memIn 6 n m = false → mem.all (memIn 6 n) = false := fun h => by
          rw [List.all_eq_false]
          exact ⟨m, List.mem_of_getElem? hmi, by rw [h]; simp⟩
        have hk0 : wr.cell? ⟨w.heap.size, 0, none⟩ = some (.int .i64 6) := by rw [hb0.cell]; rfl
        have hl0 := hb0.lt
        have hkA := (Kept.refl (fun _ => False) wr).alloc (.cells #[nV m.name, .int .i64 m.type, .int .i64 m.bits] 42)
        by_cases h1 : m.type < 1
        · have hf : memIn 6 n m = false := by unfold memIn; simp; omega
          have hbb := hbad hf
          go_wp2
          go_ret
          exact ⟨by first | rfl | (rw [hbb]; rfl), hK.alloc _⟩
        by_cases h2 : n < m.type
        · have hf : memIn 6 n m = false := by unfold memIn; simp; omega
          have hbb := hbad hf
          go_wp2
          go_ret
          exact ⟨by first | rfl | (rw [hbb]; rfl), hK.alloc _⟩
        by_cases h3 : m.bits = 0
        · have hf : memIn 6 n m = true := by unfold memIn; simp [h3]; omega
          rw [hf] at hnext
          rw [h3] at c2
          have hkA := (Kept.refl (fun _ => False) wr).alloc (.cells #[nV m.name, .int .i64 m.type, .int .i64 0] 42)
          go_wp2
          exact ⟨⟨i + 1, by go_num, by omega, hnext, hkA.blk (fun h => h) hb0, hkA.blk (fun h => h) hb1, hK.alloc _⟩, by simp [intOf]; omega⟩
        · have hf : memIn 6 n m = false := by unfold memIn; simp; omega
          have hbb := hbad hf
          have e3 : (m.bits != 0) = true := by simpa using h3
          go_wp2
          go_ret
          exact ⟨by first | rfl | (rw [hbb]; rfl), hK.alloc _⟩
  by_cases k4 : kind = 4
  · as_aux_lemma =>
    subst k4
    have hB0 : ∀ B, Blk ((w.alloc (.cells (tyVals ⟨4, name, size, signed, to, count, mem⟩ (.slice ma mem.length mc)) 38)).alloc (.cells B 38)) w.heap.size 38 (tyVals ⟨4, name, size, signed, to, count, mem⟩ (.slice ma mem.length mc)) := fun B => ((Kept.refl (fun _ => False) _).alloc _).blk (fun h => h) (Blk.new w _ _)
    have hB1 : ∀ B, Blk ((w.alloc (.cells (tyVals ⟨4, name, size, signed, to, count, mem⟩ (.slice ma mem.length mc)) 38)).alloc (.cells B 38)) (w.heap.size + 1) 38 B := fun B => by
      have := Blk.new (w.alloc (.cells (tyVals ⟨4, name, size, signed, to, count, mem⟩ (.slice ma mem.length mc)) 38)) 38 B
      rw [alloc_size] at this
      exact this
    have hKA : ∀ B, Kept (fun _ => False) w ((w.alloc (.cells (tyVals ⟨4, name, size, signed, to, count, mem⟩ (.slice ma mem.length mc)) 38)).alloc (.cells B 38)) := fun B => ((Kept.refl _ w).alloc _).alloc _
    go_enter Tryd.func55, Tryd.ntmps55
    go_wp2
    refine wp_region_mix [.w, .l, .w, .l, .w, .w, .l, .w, .w, .w, .k, .w, .t] (by kernel_rfl) (by kernel_rfl) (fun w' => Blk w' w.heap.size 38 (tyVals ⟨4, name, size, signed, to, count, mem⟩ (.slice ma mem.length mc))) ?_
    repeat (refine mix_w1 ?_; go_big_quiet_step (fail); refine wpQuiet_nil ?_)
    refine mix_load1 (hB0 _) rfl 3 (.tmp 26) rfl naInt ⟨w.heap.size, 2, none⟩ (.int .i64 size) rfl (fun w' hw' => by have h9 := Blk.cell hw' 2; exact h9) ?_
    simp only [Act.put, List.setIfInBounds_toArray, List.set_cons_succ, List.set_cons_zero]
    repeat (refine mix_w1 ?_; go_big_quiet_step (fail); refine wpQuiet_nil ?_)
    refine mix_load1 (hB0 _) rfl 4 (.tmp 28) rfl naBool ⟨w.heap.size, 3, none⟩ (.bool signed) rfl (fun w' hw' => by have h9 := Blk.cell hw' 3; exact h9) ?_
    simp only [Act.put, List.setIfInBounds_toArray, List.set_cons_succ, List.set_cons_zero]
    cases signed
    case false =>
      repeat (refine mix_w1 ?_; go_big_quiet_step (fail); refine wpQuiet_nil ?_)
      refine mix_l1 (hB0 _) ?_
      go_big_quiet_step (fail)
      refine wpQuiet_nil ?_
      repeat (refine mix_w1 ?_; go_big_quiet_step (fail); refine wpQuiet_nil ?_)
      refine mix_k (hB0 _) fun Q' hQ' => ?_
      go_wp2_with fail
      refine hQ' _ _ (hB0 _) ?_
      clear hQ' Q'
      repeat (refine mix_w1 ?_; go_big_quiet_step (fail); refine wpQuiet_nil ?_)
      refine mix_t fun Q' hQ' => ?_
      go_wp2
      refine mix_done ?_
      go_wp2
      go_loopw [46] (fun iv wr => ∃ i : Nat, iv = .int .i64 i ∧ i ≤ mem.length ∧ (mem.take i).all (memIn 4 n) = true ∧ Blk wr w.heap.size 38 (tyVals ⟨4, name, size, false, to, count, mem⟩ (.slice ma mem.length mc)) ∧
        Blk wr (w.heap.size + 1) 38 #[.int .i64 0, nV [], .int .i64 size, .bool false, .int .i64 0, .int .i64 0, .slice ma mem.length mc] ∧ Kept (fun _ => False) w wr) (fun iv _ => mem.length - (intOf iv).toNat)
      case atStart => exact ⟨0, rfl, Nat.zero_le _, by simp, hB0 _, hB1 _, (hKA _).drew⟩
      case round =>
        obtain ⟨i, rfl, hi, hall, hb0, hb1, hK⟩ := hrel
        by_cases hlt : i < mem.length
        case neg =>
          obtain rfl : i = mem.length := by omega
          rw [List.take_length] at hall
          have hc0 := hb0.cell
          have hc1 := hb1.cell
          clear hb0 hb1
          go_wp2
          all_goals go_ret
          all_goals (refine ⟨?_, hK⟩)
          all_goals (show Ending.returned (Value.bool _) = Ending.returned (Value.bool _))
          all_goals (refine congrArg (fun b => Ending.returned (Value.bool b)) ?_)
          all_goals (try rw [hall])
          all_goals (rw [Bool.eq_iff_iff])
          all_goals (try simp [leastC, mostC])
          all_goals (try omega)
        case pos =>
          obtain ⟨m, hmi⟩ : ∃ m, mem[i]? = some m := ⟨_, List.getElem?_eq_getElem hlt⟩
          obtain ⟨g, off, rfl, hg, c0, c1, c2⟩ := (hm.kept hK).at_ hmi
          have hnext : ((mem.take (i + 1)).all (memIn 4 n)) = memIn 4 n m := by rw [List.take_add_one, hmi, List.all_append, hall]; simp
          have hbad : memIn 4 n m = false → mem.all (memIn 4 n) = false := fun h => by
            rw [List.all_eq_false]
            exact ⟨m, List.mem_of_getElem? hmi, by rw [h]; simp⟩
          have hk0 : wr.cell? ⟨w.heap.size, 0, none⟩ = some (.int .i64 4) := by rw [hb0.cell]; rfl
          have hl0 := hb0.lt
          have hkA := (Kept.refl (fun _ => False) wr).alloc (.cells #[nV m.name, .int .i64 m.type, .int .i64 m.bits] 42)
          by_cases h1 : m.type < 1
          · have hf : memIn 4 n m = false := by unfold memIn; simp; omega
            have hbb := hbad hf
            go_wp2
            go_ret
            exact ⟨by first | rfl | (rw [hbb]; rfl), hK.alloc _⟩
          by_cases h2 : n < m.type
          · have hf : memIn 4 n m = false := by unfold memIn; simp; omega
            have hbb := hbad hf
            go_wp2
            go_ret
            exact ⟨by first | rfl | (rw [hbb]; rfl), hK.alloc _⟩
          have hf : memIn 4 n m = true := by unfold memIn; simp; omega
          rw [hf] at hnext
          go_wp2
          exact ⟨⟨i + 1, by go_num, by omega, hnext, hkA.blk (fun h => h) hb0, hkA.blk (fun h => h) hb1, hK.alloc _⟩, by simp [intOf]; omega⟩
    case true =>
      repeat (refine mix_w1 ?_; go_big_quiet_step (fail); refine wpQuiet_nil ?_)
      refine mix_loadG (hB0 _) (by simp [Region.wanted, yielded]) 3 (.tmp 31) rfl naInt ⟨w.heap.size, 0, none⟩ (.int .i64 4) rfl (fun w' hw' => by have h9 := Blk.cell hw' 0; exact h9) ?_
      simp only [Act.put, List.setIfInBounds_toArray, List.set_cons_succ, List.set_cons_zero]
      repeat (refine mix_w1 ?_; go_big_quiet_step (fail); refine wpQuiet_nil ?_)
      refine mix_k (hB0 _) fun Q' hQ' => ?_
      go_wp2_with fail
      refine hQ' _ _ (hB0 _) ?_
      clear hQ' Q'
      repeat (refine mix_w1 ?_; go_big_quiet_step (fail); refine wpQuiet_nil ?_)
      refine mix_t fun Q' hQ' => ?_
      go_wp2
      refine mix_done ?_
      go_wp2
      go_loopw [46] (fun iv wr => ∃ i : Nat, iv = .int .i64 i ∧ i ≤ mem.length ∧ (mem.take i).all (memIn 4 n) = true ∧ Blk wr w.heap.size 38 (tyVals ⟨4, name, size, true, to, count, mem⟩ (.slice ma mem.length mc)) ∧
        Blk wr (w.heap.size + 1) 38 #[.int .i64 0, nV [], .int .i64 size, .bool false, .int .i64 0, .int .i64 0, .slice ma mem.length mc] ∧ Kept (fun _ => False) w wr) (fun iv _ => mem.length - (intOf iv).toNat)
      case atStart => exact ⟨0, rfl, Nat.zero_le _, by simp, hB0 _, hB1 _, (hKA _).drew⟩
      case round =>
        obtain ⟨i, rfl, hi, hall, hb0, hb1, hK⟩ := hrel
        by_cases hlt : i < mem.length
        case neg =>
          obtain rfl : i = mem.length := by omega
          rw [List.take_length] at hall
          have hc0 := hb0.cell
          have hc1 := hb1.cell
          clear hb0 hb1
          go_wp2
          all_goals go_ret
          all_goals (refine ⟨?_, hK⟩)
          all_goals (show Ending.returned (Value.bool _) = Ending.returned (Value.bool _))
          all_goals (refine congrArg (fun b => Ending.returned (Value.bool b)) ?_)
          all_goals (try rw [hall])
          all_goals (rw [Bool.eq_iff_iff])
          all_goals (try simp [leastC, mostC])
          all_goals (try omega)
        case pos =>
          obtain ⟨m, hmi⟩ : ∃ m, mem[i]? = some m := ⟨_, List.getElem?_eq_getElem hlt⟩
          obtain ⟨g, off, rfl, hg, c0, c1, c2⟩ := (hm.kept hK).at_ hmi
          have hnext : ((mem.take (i + 1)).all (memIn 4 n)) = memIn 4 n m := by rw [List.take_add_one, hmi, List.all_append, hall]; simp
          have hbad : memIn 4 n m = false → mem.all (memIn 4 n) = false := fun h => by
            rw [List.all_eq_false]
            exact ⟨m, List.mem_of_getElem? hmi, by rw [h]; simp⟩
          have hk0 : wr.cell? ⟨w.heap.size, 0, none⟩ = some (.int .i64 4) := by rw [hb0.cell]; rfl
          have hl0 := hb0.lt
          have hkA := (Kept.refl (fun _ => False) wr).alloc (.cells #[nV m.name, .int .i64 m.type, .int .i64 m.bits] 42)
          by_cases h1 : m.type < 1
          · have hf : memIn 4 n m = false := by unfold memIn; simp; omega
            have hbb := hbad hf
            go_wp2
            go_ret
            exact ⟨by first | rfl | (rw [hbb]; rfl), hK.alloc _⟩
          by_cases h2 : n < m.type
          · have hf : memIn 4 n m = false := by unfold memIn; simp; omega
            have hbb := hbad hf
            go_wp2
            go_ret
            exact ⟨by first | rfl | (rw [hbb]; rfl), hK.alloc _⟩
          have hf : memIn 4 n m = true := by unfold memIn; simp; omega
          rw [hf] at hnext
          go_wp2
          exact ⟨⟨i + 1, by go_num, by omega, hnext, hkA.blk (fun h => h) hb0, hkA.blk (fun h => h) hb1, hK.alloc _⟩, by simp [intOf]; omega⟩
  by_cases k1 : kind = 1
  · as_aux_lemma =>
    subst k1
    have hB0 : ∀ B, Blk ((w.alloc (.cells (tyVals ⟨1, name, size, signed, to, count, mem⟩ (.slice ma mem.length mc)) 38)).alloc (.cells B 38)) w.heap.size 38 (tyVals ⟨1, name, size, signed, to, count, mem⟩ (.slice ma mem.length mc)) := fun B => ((Kept.refl (fun _ => False) _).alloc _).blk (fun h => h) (Blk.new w _ _)
    have hB1 : ∀ B, Blk ((w.alloc (.cells (tyVals ⟨1, name, size, signed, to, count, mem⟩ (.slice ma mem.length mc)) 38)).alloc (.cells B 38)) (w.heap.size + 1) 38 B := fun B => by
      have := Blk.new (w.alloc (.cells (tyVals ⟨1, name, size, signed, to, count, mem⟩ (.slice ma mem.length mc)) 38)) 38 B
      rw [alloc_size] at this
      exact this
    have hKA : ∀ B, Kept (fun _ => False) w ((w.alloc (.cells (tyVals ⟨1, name, size, signed, to, count, mem⟩ (.slice ma mem.length mc)) 38)).alloc (.cells B 38)) := fun B => ((Kept.refl _ w).alloc _).alloc _
    go_enter Tryd.func55, Tryd.ntmps55
    go_wp2
    refine wp_region_mix [.w, .l, .w, .l, .w, .w, .l, .w, .w, .w, .k, .w, .t] (by kernel_rfl) (by kernel_rfl) (fun w' => Blk w' w.heap.size 38 (tyVals ⟨1, name, size, signed, to, count, mem⟩ (.slice ma mem.length mc))) ?_
    repeat (refine mix_w1 ?_; go_big_quiet_step (fail); refine wpQuiet_nil ?_)
    refine mix_load1 (hB0 _) rfl 3 (.tmp 26) rfl naInt ⟨w.heap.size, 2, none⟩ (.int .i64 size) rfl (fun w' hw' => by have h9 := Blk.cell hw' 2; exact h9) ?_
    simp only [Act.put, List.setIfInBounds_toArray, List.set_cons_succ, List.set_cons_zero]
    repeat (refine mix_w1 ?_; go_big_quiet_step (fail); refine wpQuiet_nil ?_)
    refine mix_load1 (hB0 _) rfl 4 (.tmp 28) rfl naBool ⟨w.heap.size, 3, none⟩ (.bool signed) rfl (fun w' hw' => by have h9 := Blk.cell hw' 3; exact h9) ?_
    simp only [Act.put, List.setIfInBounds_toArray, List.set_cons_succ, List.set_cons_zero]
    cases signed
    case false =>
      repeat (refine mix_w1 ?_; go_big_quiet_step (fail); refine wpQuiet_nil ?_)
      refine mix_l1 (hB0 _) ?_
      go_big_quiet_step (fail)
      refine wpQuiet_nil ?_
      repeat (refine mix_w1 ?_; go_big_quiet_step (fail); refine wpQuiet_nil ?_)
      refine mix_k (hB0 _) fun Q' hQ' => ?_
      go_wp2_with fail
      refine hQ' _ _ (hB0 _) ?_
      clear hQ' Q'
      repeat (refine mix_w1 ?_; go_big_quiet_step (fail); refine wpQuiet_nil ?_)
      refine mix_t fun Q' hQ' => ?_
      go_wp2
      refine mix_done ?_
      go_wp2
      go_loopw [46] (fun iv wr => ∃ i : Nat, iv = .int .i64 i ∧ i ≤ mem.length ∧ (mem.take i).all (memIn 1 n) = true ∧ Blk wr w.heap.size 38 (tyVals ⟨1, name, size, false, to, count, mem⟩ (.slice ma mem.length mc)) ∧
        Blk wr (w.heap.size + 1) 38 #[.int .i64 0, nV [], .int .i64 size, .bool false, .int .i64 0, .int .i64 0, .slice none 0 0] ∧ Kept (fun _ => False) w wr) (fun iv _ => mem.length - (intOf iv).toNat)
      case atStart => exact ⟨0, rfl, Nat.zero_le _, by simp, hB0 _, hB1 _, (hKA _).drew⟩
      case round =>
        obtain ⟨i, rfl, hi, hall, hb0, hb1, hK⟩ := hrel
        by_cases hlt : i < mem.length
        case neg =>
          obtain rfl : i = mem.length := by omega
          rw [List.take_length] at hall
          have hc0 := hb0.cell
          have hc1 := hb1.cell
          clear hb0 hb1
          go_wp2
          all_goals go_ret
          all_goals (refine ⟨?_, hK⟩)
          all_goals (show Ending.returned (Value.bool _) = Ending.returned (Value.bool _))
          all_goals (refine congrArg (fun b => Ending.returned (Value.bool b)) ?_)
          all_goals (try rw [hall])
          all_goals (rw [Bool.eq_iff_iff])
          all_goals (try simp [leastC, mostC])
          all_goals (try omega)
        case pos =>
          obtain ⟨m, hmi⟩ : ∃ m, mem[i]? = some m := ⟨_, List.getElem?_eq_getElem hlt⟩
          obtain ⟨g, off, rfl, hg, c0, c1, c2⟩ := (hm.kept hK).at_ hmi
          have hnext : ((mem.take (i + 1)).all (memIn 1 n)) = memIn 1 n m := by rw [List.take_add_one, hmi, List.all_append, hall]; simp
          have hbad : memIn 1 n m = false → mem.all (memIn 1 n) = false := fun h => by
            rw [List.all_eq_false]
            exact ⟨m, List.mem_of_getElem? hmi, by rw [h]; simp⟩
          have hk0 : wr.cell? ⟨w.heap.size, 0, none⟩ = some (.int .i64 1) := by rw [hb0.cell]; rfl
          have hl0 := hb0.lt
          have hkA := (Kept.refl (fun _ => False) wr).alloc (.cells #[nV m.name, .int .i64 m.type, .int .i64 m.bits] 42)
          by_cases h1 : m.type < 1
          · have hf : memIn 1 n m = false := by unfold memIn; simp; omega
            have hbb := hbad hf
            go_wp2
            go_ret
            exact ⟨by first | rfl | (rw [hbb]; rfl), hK.alloc _⟩
          by_cases h2 : n < m.type
          · have hf : memIn 1 n m = false := by unfold memIn; simp; omega
            have hbb := hbad hf
            go_wp2
            go_ret
            exact ⟨by first | rfl | (rw [hbb]; rfl), hK.alloc _⟩
          have hf : memIn 1 n m = true := by unfold memIn; simp; omega
          rw [hf] at hnext
          go_wp2
          exact ⟨⟨i + 1, by go_num, by omega, hnext, hkA.blk (fun h => h) hb0, hkA.blk (fun h => h) hb1, hK.alloc _⟩, by simp [intOf]; omega⟩
    case true =>
      repeat (refine mix_w1 ?_; go_big_quiet_step (fail); refine wpQuiet_nil ?_)
      refine mix_loadG (hB0 _) (by simp [Region.wanted, yielded]) 3 (.tmp 31) rfl naInt ⟨w.heap.size, 0, none⟩ (.int .i64 1) rfl (fun w' hw' => by have h9 := Blk.cell hw' 0; exact h9) ?_
      simp only [Act.put, List.setIfInBounds_toArray, List.set_cons_succ, List.set_cons_zero]
      repeat (refine mix_w1 ?_; go_big_quiet_step (fail); refine wpQuiet_nil ?_)
      refine mix_k (hB0 _) fun Q' hQ' => ?_
      go_wp2_with fail
      refine hQ' _ _ (hB0 _) ?_
      clear hQ' Q'
      repeat (refine mix_w1 ?_; go_big_quiet_step (fail); refine wpQuiet_nil ?_)
      refine mix_t fun Q' hQ' => ?_
      go_wp2
      refine mix_done ?_
      go_wp2
      go_loopw [46] (fun iv wr => ∃ i : Nat, iv = .int .i64 i ∧ i ≤ mem.length ∧ (mem.take i).all (memIn 1 n) = true ∧ Blk wr w.heap.size 38 (tyVals ⟨1, name, size, true, to, count, mem⟩ (.slice ma mem.length mc)) ∧
        Blk wr (w.heap.size + 1) 38 #[.int .i64 0, nV [], .int .i64 size, .bool true, .int .i64 0, .int .i64 0, .slice none 0 0] ∧ Kept (fun _ => False) w wr) (fun iv _ => mem.length - (intOf iv).toNat)
      case atStart => exact ⟨0, rfl, Nat.zero_le _, by simp, hB0 _, hB1 _, (hKA _).drew⟩
      case round =>
        obtain ⟨i, rfl, hi, hall, hb0, hb1, hK⟩ := hrel
        by_cases hlt : i < mem.length
        case neg =>
          obtain rfl : i = mem.length := by omega
          rw [List.take_length] at hall
          have hc0 := hb0.cell
          have hc1 := hb1.cell
          clear hb0 hb1
          go_wp2
          all_goals go_ret
          all_goals (refine ⟨?_, hK⟩)
          all_goals (show Ending.returned (Value.bool _) = Ending.returned (Value.bool _))
          all_goals (refine congrArg (fun b => Ending.returned (Value.bool b)) ?_)
          all_goals (try rw [hall])
          all_goals (rw [Bool.eq_iff_iff])
          all_goals (try simp [leastC, mostC])
          all_goals (try omega)
        case pos =>
          obtain ⟨m, hmi⟩ : ∃ m, mem[i]? = some m := ⟨_, List.getElem?_eq_getElem hlt⟩
          obtain ⟨g, off, rfl, hg, c0, c1, c2⟩ := (hm.kept hK).at_ hmi
          have hnext : ((mem.take (i + 1)).all (memIn 1 n)) = memIn 1 n m := by rw [List.take_add_one, hmi, List.all_append, hall]; simp
          have hbad : memIn 1 n m = false → mem.all (memIn 1 n) = false := fun h => by
            rw [List.all_eq_false]
            exact ⟨m, List.mem_of_getElem? hmi, by rw [h]; simp⟩
          have hk0 : wr.cell? ⟨w.heap.size, 0, none⟩ = some (.int .i64 1) := by rw [hb0.cell]; rfl
          have hl0 := hb0.lt
          have hkA := (Kept.refl (fun _ => False) wr).alloc (.cells #[nV m.name, .int .i64 m.type, .int .i64 m.bits] 42)
          by_cases h1 : m.type < 1
          · have hf : memIn 1 n m = false := by unfold memIn; simp; omega
            have hbb := hbad hf
            go_wp2
            go_ret
            exact ⟨by first | rfl | (rw [hbb]; rfl), hK.alloc _⟩
          by_cases h2 : n < m.type
          · have hf : memIn 1 n m = false := by unfold memIn; simp; omega
            have hbb := hbad hf
            go_wp2
            go_ret
            exact ⟨by first | rfl | (rw [hbb]; rfl), hK.alloc _⟩
          have hf : memIn 1 n m = true := by unfold memIn; simp; omega
          rw [hf] at hnext
          go_wp2
          exact ⟨⟨i + 1, by go_num, by omega, hnext, hkA.blk (fun h => h) hb0, hkA.blk (fun h => h) hb1, hK.alloc _⟩, by simp [intOf]; omega⟩
  have e1 : (kind == 1) = false := by simpa using k1
  have e2 : (kind == 2) = false := by simpa using k2
  have e3 : (kind == 3) = false := by simpa using k3
  have e4 : (kind == 4) = false := by simpa using k4
  have e6 : (kind == 6) = false := by simpa using k6
  have hB0 : ∀ B, Blk ((w.alloc (.cells (tyVals ⟨kind, name, size, signed, to, count, mem⟩ (.slice ma mem.length mc)) 38)).alloc (.cells B 38)) w.heap.size 38 (tyVals ⟨kind, name, size, signed, to, count, mem⟩ (.slice ma mem.length mc)) := fun B => ((Kept.refl (fun _ => False) _).alloc _).blk (fun h => h) (Blk.new w _ _)
  have hB1 : ∀ B, Blk ((w.alloc (.cells (tyVals ⟨kind, name, size, signed, to, count, mem⟩ (.slice ma mem.length mc)) 38)).alloc (.cells B 38)) (w.heap.size + 1) 38 B := fun B => by
    have := Blk.new (w.alloc (.cells (tyVals ⟨kind, name, size, signed, to, count, mem⟩ (.slice ma mem.length mc)) 38)) 38 B
    rw [alloc_size] at this
    exact this
  have hKA : ∀ B, Kept (fun _ => False) w ((w.alloc (.cells (tyVals ⟨kind, name, size, signed, to, count, mem⟩ (.slice ma mem.length mc)) 38)).alloc (.cells B 38)) := fun B => ((Kept.refl _ w).alloc _).alloc _
  go_enter Tryd.func55, Tryd.ntmps55
  go_wp2
  go_loopw [46] (fun iv wr => ∃ i : Nat, iv = .int .i64 i ∧ i ≤ mem.length ∧ (mem.take i).all (memIn kind n) = true ∧ Blk wr w.heap.size 38 (tyVals ⟨kind, name, size, signed, to, count, mem⟩ (.slice ma mem.length mc)) ∧
    Blk wr (w.heap.size + 1) 38 #[.int .i64 0, nV [], .int .i64 0, .bool false, .int .i64 0, .int .i64 0, .slice none 0 0] ∧ Kept (fun _ => False) w wr) (fun iv _ => mem.length - (intOf iv).toNat)
  case atStart => exact ⟨0, rfl, Nat.zero_le _, by simp, hB0 _, hB1 _, hKA _⟩
  case round =>
    obtain ⟨i, rfl, hi, hall, hb0, hb1, hK⟩ := hrel
    by_cases hlt : i < mem.length
    case neg =>
      obtain rfl : i = mem.length := by omega
      rw [List.take_length] at hall
      have hc0 := hb0.cell
      have hc1 := hb1.cell
      clear hb0 hb1
      go_wp2
      all_goals go_ret
      all_goals (refine ⟨?_, hK⟩)
      all_goals (show Ending.returned (Value.bool _) = Ending.returned (Value.bool _))
      all_goals (refine congrArg (fun b => Ending.returned (Value.bool b)) ?_)
      all_goals (try rw [hall])
      all_goals (rw [Bool.eq_iff_iff])
      all_goals (try simp [leastC, mostC, k1, k2, k3, k4, k6])
      all_goals (try omega)
    case pos =>
      obtain ⟨m, hmi⟩ : ∃ m, mem[i]? = some m := ⟨_, List.getElem?_eq_getElem hlt⟩
      obtain ⟨g, off, rfl, hg, c0, c1, c2⟩ := (hm.kept hK).at_ hmi
      have hnext : ((mem.take (i + 1)).all (memIn kind n)) = memIn kind n m := by rw [List.take_add_one, hmi, List.all_append, hall]; simp
      have hbad : memIn kind n m = false → mem.all (memIn kind n) = false := fun h => by
        rw [List.all_eq_false]
        exact ⟨m, List.mem_of_getElem? hmi, by rw [h]; simp⟩
      have hk0 : wr.cell? ⟨w.heap.size, 0, none⟩ = some (.int .i64 kind) := by rw [hb0.cell]; rfl
      have hl0 := hb0.lt
      have hkA := (Kept.refl (fun _ => False) wr).alloc (.cells #[nV m.name, .int .i64 m.type, .int .i64 m.bits] 42)
      by_cases h1 : m.type < 1
      · have hf : memIn kind n m = false := by unfold memIn; simp; omega
        have hbb := hbad hf
        go_wp2
        go_ret
        exact ⟨by first | rfl | (rw [hbb]; rfl), hK.alloc _⟩
      by_cases h2 : n < m.type
      · have hf : memIn kind n m = false := by unfold memIn; simp; omega
        have hbb := hbad hf
        go_wp2
        go_ret
        exact ⟨by first | rfl | (rw [hbb]; rfl), hK.alloc _⟩
      have hf : memIn kind n m = true := by unfold memIn; simp [k1, k2, k3, k4, k6]; omega
      rw [hf] at hnext
      go_wp2
      exact ⟨⟨i + 1, by go_num, by omega, hnext, hkA.blk (fun h => h) hb0, hkA.blk (fun h => h) hb1, hK.alloc _⟩, by simp [intOf]; omega⟩

end Go.Proofs.YtmgdjiplpfeoiaaDoor

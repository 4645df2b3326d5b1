import Derived.Test.YtmgdjiplpfeoiaaDoorTk
set_option linter.unusedSimpArgs false
set_option linter.unusedVariables false
namespace Go.Proofs.YtmgdjiplpfeoiaaDoor
open Go.RowKit

theorem idx0 (a0 a1 a2 a3 a4 a5 : Value) (W : World) : (Instr.index 71 (.agg #[a0, a1, a2, a3, a4, a5]) (.int .i64 0)).run Tryd.prog W = .ok (.agg #[a0, a1]) W := by kernel_rfl
theorem idx1 (a0 a1 a2 a3 a4 a5 : Value) (W : World) : (Instr.index 71 (.agg #[a0, a1, a2, a3, a4, a5]) (.int .i64 1)).run Tryd.prog W = .ok (.agg #[a2, a3]) W := by kernel_rfl
theorem idx2 (a0 a1 a2 a3 a4 a5 : Value) (W : World) : (Instr.index 71 (.agg #[a0, a1, a2, a3, a4, a5]) (.int .i64 2)).run Tryd.prog W = .ok (.agg #[a4, a5]) W := by kernel_rfl
theorem reach_in {l : List Ty} (hc : Closed l) {x y : Int} (h : Reach l x y) : 1 ≤ y ∧ y ≤ (l.length : Int) := by
  induction h with
  | one h => exact hc _ _ h
  | more _ _ ih => exact ih
theorem acyc_of {l : List Ty} (hc : Closed l) (h : firstF (pR l) l.length = none) : Acyc l := by
  intro a hR
  obtain ⟨h1, h2⟩ := reach_in hc hR
  have := firstF_none h (i := (a - 1).toNat) (by omega)
  unfold pR at this
  rw [decide_eq_false_iff_not, show (((a - 1).toNat : Nat) : Int) + 1 = a by omega] at this
  exact this hR

set_option maxHeartbeats 8000000 in
set_option maxRecDepth 100000 in
theorem check_any (l : List Ty) (a : Option Addr) (c : Nat) (w : World) (h : Tys w (.slice a l.length c) l) (hr : Raw l) :
    Calls Tryd.prog 15 #[.slice a l.length c] w fun e w' => e = .returned (.tuple #[.int .i64 (checkL l).1, .int .i64 (checkL l).2]) ∧ Kept (fun _ => False) w w' := by
  have hmf : ∀ (fn : Fn) (first cap : Array Value) (w : World), (Instr.makeFunc fn first cap).run Tryd.prog w = .ok (.func fn first cap) w := fun _ _ _ _ => rfl
  have hB := Blk.new w 22 #[.slice a l.length c]
  have hkA : Kept (fun _ => False) w (w.alloc (.cells #[.slice a l.length c] 22)) := (Kept.refl _ w).alloc _
  have hmx := hr.len
  unfold maxLen at hmx
  by_cases h256 : 256 < l.length
  · have hC : checkL l = (0, 45) := by unfold checkL; rw [if_pos h256]
    go_enter Tryd.func15, Tryd.ntmps15
    go_wp2_with fail
    go_ret2
    exact ⟨by rw [hC]; rfl, hkA⟩
  go_enter Tryd.func15, Tryd.ntmps15
  go_wp2_with fail
  go_loopw [16] (fun iv wr => ∃ j : Nat, iv = .int .i64 j ∧ j ≤ l.length ∧ (l.take j).any (fun t => decide (64 < t.mem.length)) = false ∧ Blk wr w.heap.size 22 #[.slice a l.length c] ∧ Kept (fun _ => False) w wr) (fun iv _ => l.length - (intOf iv).toNat)
  case atStart => exact ⟨0, rfl, Nat.zero_le _, by simp, hB, hkA⟩
  case round =>
    obtain ⟨j, rfl, hj, hany, hb, hK⟩ := hrel
    by_cases hlt : j < l.length
    case pos =>
      obtain ⟨t, ht⟩ : ∃ t, l[j]? = some t := ⟨_, List.getElem?_eq_getElem hlt⟩
      obtain ⟨g, off, mv, rfl, hgl, hm, c0, c1, c2, c3, c4, c5, c6⟩ := (h.kept hK).at_ ht
      obtain ⟨ma, mc, rfl⟩ := hm.any
      have hkB := (Kept.refl (fun _ => False) wr).alloc (.cells (tyVals t (.slice ma t.mem.length mc)) 38)
      by_cases h64 : 64 < t.mem.length
      · have hC := check_many h256 ht h64
        go_wp2_with fail
        go_ret2
        exact ⟨by rw [hC]; rfl, hK.alloc _⟩
      · have hnx : (l.take (j + 1)).any (fun t => decide (64 < t.mem.length)) = false := by
          rw [List.take_add_one, ht, List.any_append, hany]
          simp
          omega
        go_wp2_with fail
        exact ⟨⟨j + 1, by go_num, by omega, hnx, hkB.blk (fun h => h) hb, hK.alloc _⟩, by simp [intOf]; omega⟩
    case neg =>
      obtain rfl : j = l.length := by omega
      rw [List.take_length] at hany
      have hCE := check_eq h256 hany
      have hf : Fit l := ⟨by omega, fun t ht => by
        rw [List.any_eq_false] at hany
        have := hany t ht
        simpa using this, hr.name, hr.mname⟩
      have hc0 := hb.cell 0
      go_wp2_with fail
      go_loopw [27] (fun iv wx => ∃ j : Nat, iv = .int .i64 j ∧ j ≤ l.length ∧ firstF (pA l) j = none ∧ Blk wx w.heap.size 22 #[.slice a l.length c] ∧ Kept (fun _ => False) w wx) (fun iv _ => l.length - (intOf iv).toNat)
      case atStart => exact ⟨0, rfl, Nat.zero_le _, rfl, hb, hK⟩
      case round =>
        clear hb hK hc0
        obtain ⟨j, rfl, hj, hnone, hb, hK⟩ := hrel
        have hc0 := hb.cell 0
        by_cases hlt : j < l.length
        case pos =>
          obtain ⟨t, ht⟩ : ∃ t, l[j]? = some t := ⟨_, List.getElem?_eq_getElem hlt⟩
          have hpA : pA l j = (aloneC l j t != 0) := by unfold pA; rw [ht]; rfl
          go_wp2_with fail
          refine (alone_any l a c j t wr (h.kept hK) ht hf).mono ?_
          rintro e w2 ⟨rfl, hk2⟩
          by_cases h0 : aloneC l j t = 0
          · have hp : pA l j = false := by rw [hpA, h0]; rfl
            have hnx := firstF_next hnone
            rw [if_neg (by rw [hp]; simp)] at hnx
            rw [h0]
            go_wp2_with fail
            exact ⟨⟨j + 1, by go_num, by omega, hnx, hk2.blk (fun h => h) hb, hK.trans hk2 (fun _ _ h => h)⟩, by simp [intOf]; omega⟩
          · have hp : pA l j = true := by rw [hpA]; simpa using h0
            have hC : checkL l = ((j : Int) + 1, aloneC l j t) := by
              rw [hCE, firstF_some hnone hp hlt]
              simp only [ht, Option.map_some, Option.getD_some]
            have e0 : (aloneC l j t != 0) = true := by simpa using h0
            clear h0
            go_wp2_with fail
            go_ret2
            exact ⟨by rw [hC]; rfl, hK.trans hk2 (fun _ _ h => h)⟩
        case neg =>
          obtain rfl : j = l.length := by omega
          have halone : ∀ (i : Nat) (t : Ty), l[i]? = some t → aloneC l i t = 0 := fun i t ht => by
            have := firstF_none hnone (List.getElem?_eq_some_iff.1 ht).1
            unfold pA at this
            rw [ht] at this
            simpa using this
          have hcl := closed_of halone
          rw [hnone] at hCE
          go_wp2_with fail
          try simp only at hCE
          go_loopw [46] (fun kv wx => ∃ k : Nat, kv = .int .i64 k ∧ k ≤ 3 ∧ (1 ≤ k → firstF (pR l) l.length = none) ∧ (2 ≤ k → firstF (pF l) l.length = none) ∧ (3 ≤ k → firstF (pL l) l.length = none) ∧ Blk wx w.heap.size 22 #[.slice a l.length c] ∧ Kept (fun _ => False) w wx) (fun kv _ => 3 - (intOf kv).toNat)
          case atStart => exact ⟨0, rfl, by omega, by omega, by omega, by omega, hb, hK⟩
          case round =>
            clear hb hK hc0 hnone
            obtain ⟨k, rfl, hk, n1, n2, n3, hb, hK⟩ := hrel
            have hl0 := hb.cell 0
            rcases (show k = 0 ∨ k = 1 ∨ k = 2 ∨ k = 3 by omega) with rfl | rfl | rfl | rfl
            · as_aux_lemma =>
              have hidx := idx0
              clear hk
              go_wp2_with fail
              have hbf0 := Blk.new wr 69 #[.func (.func 33) #[] #[.pointer (some ⟨w.heap.size, 0, none⟩)], .int .i64 42]
              have hkF := (Kept.refl (fun _ => False) wr).alloc (.cells #[.func (.func 33) #[] #[.pointer (some ⟨w.heap.size, 0, none⟩)], .int .i64 42] 69)
              generalize hfb : wr.heap.size = fb at *
              go_loopw [10] (fun iv wy => ∃ j : Nat, iv = .int .i64 ((j : Int) + 1) ∧ j ≤ l.length ∧ firstF (pR l) j = none ∧ Blk wy w.heap.size 22 #[.slice a l.length c] ∧ Blk wy fb 69 #[.func (.func 33) #[] #[.pointer (some ⟨w.heap.size, 0, none⟩)], .int .i64 42] ∧ Kept (fun _ => False) w wy) (fun iv _ => l.length + 1 - (intOf iv).toNat)
              case atStart => exact ⟨0, rfl, Nat.zero_le _, rfl, hkF.blk (fun h => h) hb, hbf0, hK.alloc _⟩
              case round =>
                clear hb hK hbf0 hkF
                obtain ⟨j, rfl, hj, hnone1, hb, hbf, hK⟩ := hrel
                have hl0 := hb.cell 0
                by_cases hlt : j < l.length
                case pos =>
                  obtain ⟨t, ht⟩ : ∃ t, l[j]? = some t := ⟨_, List.getElem?_eq_getElem hlt⟩
                  have hf0 := hbf.cell 0
                  go_wp2_with fail
                  refine (check1_any _ l a c j wr hb (h.kept hK) hf hcl hlt).mono ?_
                  rintro e w3 ⟨r, rfl, hr1, hk3⟩
                  have hb3 := hk3.blk (fun h => h) hb
                  have hbf3 := hk3.blk (fun h => h) hbf
                  have hf1 := hbf3.cell 1
                  have hnx := firstF_next hnone1
                  cases hr : r with
                  | true =>
                    have hp : pR l j = true := by unfold pR; simp only [decide_eq_true_eq]; exact hr1.1 hr
                    have hC : checkL l = ((j : Int) + 1, 42) := by
                      rw [hCE]
                      simp only [firstF_some hnone1 hp hlt]
                    clear hf0
                    go_wp2_with fail
                    refine wp_region_mix0 [.w, .w, .l, .w, .w] (by kernel_rfl) (by kernel_rfl) ?_
                    repeat (first
                      | (refine mix_w1 ?_; go_big_quiet_step (fail); refine wpQuiet_nil ?_)
                      | (refine mix_l1 rfl ?_; go_big_quiet_step (fail); refine wpQuiet_nil ?_))
                    refine mix_done ?_
                    go_wp2_with fail
                    go_ret2
                    exact ⟨by rw [hC]; rfl, by first | exact (hK.trans hk3 (fun _ _ h => h)).drew | exact hK.trans hk3 (fun _ _ h => h)⟩
                  | false =>
                    have hp : pR l j = false := by unfold pR; simp only [decide_eq_false_iff_not]; exact fun h => by have := hr1.2 h; rw [hr] at this; cases this
                    rw [if_neg (by rw [hp]; simp)] at hnx
                    clear hf0
                    go_wp2_with fail
                    go_roundw
                    case rel =>
                      first
                      | exact ⟨j + 1, by go_num, by omega, hnx, hb3, hbf3, hK.trans hk3 (fun _ _ h => h)⟩
                      | (repeat apply Exists.intro
                         refine ⟨?_, rfl⟩
                         exact ⟨j + 1, by go_num, by omega, hnx, hb3, hbf3, hK.trans hk3 (fun _ _ h => h)⟩)
                    case measure => simp [intOf]; omega
                case neg =>
                  obtain rfl : j = l.length := by omega
                  go_wp2_with fail
                  go_roundw
                  case rel => exact ⟨1, rfl, by omega, fun _ => hnone1, (fun h => by omega), (fun h => by omega), hb, hK⟩
                  case measure => simp [intOf]
            · as_aux_lemma =>
              have hgood : Good l := ⟨hf, acyc_of hcl (n1 (by omega)), halone, hr.bits⟩
              have hn1 := n1 (by omega)
              have hidx := idx1
              clear hk
              go_wp2_with fail
              have hbf0 := Blk.new wr 69 #[.func (.func 35) #[] #[.pointer (some ⟨w.heap.size, 0, none⟩)], .int .i64 41]
              have hkF := (Kept.refl (fun _ => False) wr).alloc (.cells #[.func (.func 35) #[] #[.pointer (some ⟨w.heap.size, 0, none⟩)], .int .i64 41] 69)
              generalize hfb : wr.heap.size = fb at *
              go_loopw [10] (fun iv wy => ∃ j : Nat, iv = .int .i64 ((j : Int) + 1) ∧ j ≤ l.length ∧ firstF (pF l) j = none ∧ Blk wy w.heap.size 22 #[.slice a l.length c] ∧ Blk wy fb 69 #[.func (.func 35) #[] #[.pointer (some ⟨w.heap.size, 0, none⟩)], .int .i64 41] ∧ Kept (fun _ => False) w wy) (fun iv _ => l.length + 1 - (intOf iv).toNat)
              case atStart => exact ⟨0, rfl, Nat.zero_le _, rfl, hkF.blk (fun h => h) hb, hbf0, hK.alloc _⟩
              case round =>
                clear hb hK hbf0 hkF
                obtain ⟨j, rfl, hj, hnone1, hb, hbf, hK⟩ := hrel
                have hl0 := hb.cell 0
                by_cases hlt : j < l.length
                case pos =>
                  obtain ⟨t, ht⟩ : ∃ t, l[j]? = some t := ⟨_, List.getElem?_eq_getElem hlt⟩
                  have hf0 := hbf.cell 0
                  go_wp2_with fail
                  refine (check2_any _ l a c j t wr hb (h.kept hK) hgood ht).mono ?_
                  rintro e w3 ⟨rfl, hk3⟩
                  have hb3 := hk3.blk (fun h => h) hb
                  have hbf3 := hk3.blk (fun h => h) hbf
                  have hf1 := hbf3.cell 1
                  have hnx := firstF_next hnone1
                  cases hr : functionsB l t with
                  | true =>
                    have hp : pF l j = true := by unfold pF; rw [ht]; exact hr
                    have hC : checkL l = ((j : Int) + 1, 41) := by
                      rw [hCE]
                      simp only [hn1, firstF_some hnone1 hp hlt]
                    clear hf0
                    go_wp2_with fail
                    refine wp_region_mix0 [.w, .w, .l, .w, .w] (by kernel_rfl) (by kernel_rfl) ?_
                    repeat (first
                      | (refine mix_w1 ?_; go_big_quiet_step (fail); refine wpQuiet_nil ?_)
                      | (refine mix_l1 rfl ?_; go_big_quiet_step (fail); refine wpQuiet_nil ?_))
                    refine mix_done ?_
                    go_wp2_with fail
                    go_ret2
                    exact ⟨by rw [hC]; rfl, by first | exact (hK.trans hk3 (fun _ _ h => h)).drew | exact hK.trans hk3 (fun _ _ h => h)⟩
                  | false =>
                    have hp : pF l j = false := by unfold pF; rw [ht]; exact hr
                    rw [if_neg (by rw [hp]; simp)] at hnx
                    clear hf0
                    go_wp2_with fail
                    go_roundw
                    case rel =>
                      first
                      | exact ⟨j + 1, by go_num, by omega, hnx, hb3, hbf3, hK.trans hk3 (fun _ _ h => h)⟩
                      | (repeat apply Exists.intro
                         refine ⟨?_, rfl⟩
                         exact ⟨j + 1, by go_num, by omega, hnx, hb3, hbf3, hK.trans hk3 (fun _ _ h => h)⟩)
                    case measure => simp [intOf]; omega
                case neg =>
                  obtain rfl : j = l.length := by omega
                  go_wp2_with fail
                  go_roundw
                  case rel => exact ⟨2, rfl, by omega, fun _ => hn1, fun _ => hnone1, (fun h => by omega), hb, hK⟩
                  case measure => simp [intOf]
            · as_aux_lemma =>
              have hgood : Good l := ⟨hf, acyc_of hcl (n1 (by omega)), halone, hr.bits⟩
              have hn1 := n1 (by omega)
              have hn2 := n2 (by omega)
              have hidx := idx2
              clear hk
              go_wp2_with fail
              have hbf0 := Blk.new wr 69 #[.func (.func 37) #[] #[.pointer (some ⟨w.heap.size, 0, none⟩)], .int .i64 43]
              have hkF := (Kept.refl (fun _ => False) wr).alloc (.cells #[.func (.func 37) #[] #[.pointer (some ⟨w.heap.size, 0, none⟩)], .int .i64 43] 69)
              generalize hfb : wr.heap.size = fb at *
              go_loopw [10] (fun iv wy => ∃ j : Nat, iv = .int .i64 ((j : Int) + 1) ∧ j ≤ l.length ∧ firstF (pL l) j = none ∧ Blk wy w.heap.size 22 #[.slice a l.length c] ∧ Blk wy fb 69 #[.func (.func 37) #[] #[.pointer (some ⟨w.heap.size, 0, none⟩)], .int .i64 43] ∧ Kept (fun _ => False) w wy) (fun iv _ => l.length + 1 - (intOf iv).toNat)
              case atStart => exact ⟨0, rfl, Nat.zero_le _, rfl, hkF.blk (fun h => h) hb, hbf0, hK.alloc _⟩
              case round =>
                clear hb hK hbf0 hkF
                obtain ⟨j, rfl, hj, hnone1, hb, hbf, hK⟩ := hrel
                have hl0 := hb.cell 0
                by_cases hlt : j < l.length
                case pos =>
                  obtain ⟨t, ht⟩ : ∃ t, l[j]? = some t := ⟨_, List.getElem?_eq_getElem hlt⟩
                  have hf0 := hbf.cell 0
                  go_wp2_with fail
                  refine (check3_any _ l a c j t wr hb (h.kept hK) hgood ht).mono ?_
                  rintro e w3 ⟨rfl, hk3⟩
                  have hb3 := hk3.blk (fun h => h) hb
                  have hbf3 := hk3.blk (fun h => h) hbf
                  have hf1 := hbf3.cell 1
                  have hnx := firstF_next hnone1
                  cases hr : (!laidB l ((j : Int) + 1) t) with
                  | true =>
                    have hp : pL l j = true := by unfold pL; rw [ht]; exact hr
                    have hC : checkL l = ((j : Int) + 1, 43) := by
                      rw [hCE]
                      simp only [hn1, hn2, firstF_some hnone1 hp hlt]
                    clear hf0
                    go_wp2_with fail
                    refine wp_region_mix0 [.w, .w, .l, .w, .w] (by kernel_rfl) (by kernel_rfl) ?_
                    repeat (first
                      | (refine mix_w1 ?_; go_big_quiet_step (fail); refine wpQuiet_nil ?_)
                      | (refine mix_l1 rfl ?_; go_big_quiet_step (fail); refine wpQuiet_nil ?_))
                    refine mix_done ?_
                    go_wp2_with fail
                    go_ret2
                    exact ⟨by rw [hC]; rfl, by first | exact (hK.trans hk3 (fun _ _ h => h)).drew | exact hK.trans hk3 (fun _ _ h => h)⟩
                  | false =>
                    have hp : pL l j = false := by unfold pL; rw [ht]; exact hr
                    rw [if_neg (by rw [hp]; simp)] at hnx
                    clear hf0
                    go_wp2_with fail
                    go_roundw
                    case rel =>
                      first
                      | exact ⟨j + 1, by go_num, by omega, hnx, hb3, hbf3, hK.trans hk3 (fun _ _ h => h)⟩
                      | (repeat apply Exists.intro
                         refine ⟨?_, rfl⟩
                         exact ⟨j + 1, by go_num, by omega, hnx, hb3, hbf3, hK.trans hk3 (fun _ _ h => h)⟩)
                    case measure => simp [intOf]; omega
                case neg =>
                  obtain rfl : j = l.length := by omega
                  go_wp2_with fail
                  go_roundw
                  case rel => exact ⟨3, rfl, by omega, fun _ => hn1, fun _ => hn2, fun _ => hnone1, hb, hK⟩
                  case measure => simp [intOf]
            · have hC : checkL l = (0, 0) := by
                rw [hCE]
                simp only [n1 (by omega), n2 (by omega), n3 (by omega)]
              clear n1 n2 n3
              go_wp2_with fail
              go_ret2
              exact ⟨by rw [hC]; rfl, hK⟩

end Go.Proofs.YtmgdjiplpfeoiaaDoor

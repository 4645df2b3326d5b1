import Derived.Test.YtmgdjiplpfeoiaaDoorTm
import Derived.Test.YtmgdjiplpfeoiaaDoorTw
set_option linter.unusedSimpArgs false
set_option linter.unusedVariables false
namespace Go.Proofs.YtmgdjiplpfeoiaaDoor
open Go.RowKit

theorem infoT : (Tryd.prog.info? 38).map (fun i => (i.zero, i.size, i.bytes)) = some (some (.agg #[.int .i64 0, nV [], .int .i64 0, .bool false, .int .i64 0, .int .i64 0, .slice none 0 0]), 7, 80) := by kernel_rfl
theorem cutPre (g o n c i : Nat) (hi : i ≤ c) (w : World) : (Instr.sliceAt 22 (.slice (some ⟨g, o, none⟩) n c) none (some (.int .i64 i)) none).run Tryd.prog w = .ok (.slice (some ⟨g, o, none⟩) i c) w := by
  obtain ⟨i0, hI0, hI1, hI2, hI3⟩ := info_parts infoT
  simp [Instr.sliceAt, Instr.slice, run_underlying Tryd.underlying22, Instr.sliceBounds, run_sliceBound, sizeOf, typeInfo, hI0, hi, add_n]

set_option maxHeartbeats 4000000 in
set_option maxRecDepth 100000 in
theorem called_any (l : List Ty) (a : Option Addr) (c : Nat) (i : Nat) (t : Ty) (w : World) (h : Tys w (.slice a l.length c) l) (ht : l[i]? = some t) (hf : Fit l) :
    Calls Tryd.prog 52 #[.slice a l.length c, .int .i64 i] w fun e w' => e = .returned (.bool (calledB l i t)) ∧ Kept (fun _ => False) w w' := by
  have hi := (List.getElem?_eq_some_iff.1 ht).1
  have hnl := hf.name t (List.mem_of_getElem? ht)
  have h256 := hf.len
  obtain ⟨_, _, hv, hlc⟩ := h.any
  obtain ⟨rfl, -, rfl⟩ := Value.slice.inj hv
  clear hv
  obtain ⟨g, off, mv, rfl, hg, hm, c0, c1, c2, c3, c4, c5, c6⟩ := h.at_ ht
  obtain ⟨ma, mc, rfl⟩ := hm.any
  have hTE : (ByteArray.mk #[]).toList = [] := by rw [ByteArray.toList_eq]
  have hTL := nV_list t.name
  unfold calledB
  cases hn : namedB t.kind with
  | false =>
    rw [if_neg (by simp)]
    go_enter Tryd.func52, Tryd.ntmps52
    go_wp2_with fail
    refine (named_any t.kind _).mono ?_
    rw [hn]
    rintro e w1 ⟨rfl, rfl⟩
    go_wp2_with fail
    go_ret
    exact ⟨by rw [show (t.name == []) = t.name.isEmpty by cases t.name <;> rfl]; rfl, (Kept.refl _ w).alloc _⟩
  | true =>
    rw [if_pos rfl]
    have hcut := cutPre g off l.length c i (by omega)
    go_enter Tryd.func52, Tryd.ntmps52
    go_wp2_with fail
    refine (named_any t.kind _).mono ?_
    rw [hn]
    rintro e w1 ⟨rfl, rfl⟩
    go_wp2_with fail
    go_loopw [23] (fun iv wr => ∃ j : Nat, iv = .int .i64 j ∧ j ≤ i ∧ ((l.take j).all (fun u => !(u.kind == t.kind && u.name == t.name))) = true ∧ Blk wr w.heap.size 38 (tyVals t (.slice ma t.mem.length mc)) ∧ Kept (fun _ => False) w wr) (fun iv _ => i - (intOf iv).toNat)
    case atStart => exact ⟨0, rfl, Nat.zero_le _, by simp, Blk.new w _ _, (Kept.refl _ w).alloc _⟩
    case round =>
      obtain ⟨j, rfl, hj, hall, hb, hK⟩ := hrel
      by_cases hlt : j < i
      case neg =>
        obtain rfl : j = i := by omega
        have hn1 : wr.cell? ⟨w.heap.size, 1, none⟩ = some (nV t.name) := by rw [hb.cell]; rfl
        go_wp2_with fail
        refine (name_any t.name _ hnl).mono ?_
        rintro e w2 ⟨rfl, rfl⟩
        go_wp2_with fail
        go_ret
        exact ⟨by rw [hall]; simp, hK⟩
      case pos =>
        obtain ⟨u, hu⟩ : ∃ u, l[j]? = some u := ⟨_, List.getElem?_eq_getElem (by omega)⟩
        obtain ⟨g', off', mv', hga, hg', hm', d0, d1, d2, d3, d4, d5, d6⟩ := (h.kept hK).at_ hu
        simp only [Option.some.injEq, Addr.mk.injEq, and_true] at hga
        obtain ⟨rfl, rfl⟩ := hga
        obtain ⟨ma', mc', rfl⟩ := hm'.any
        have hk0 : wr.cell? ⟨w.heap.size, 0, none⟩ = some (.int .i64 t.kind) := by rw [hb.cell]; rfl
        have hk1 : wr.cell? ⟨w.heap.size, 1, none⟩ = some (nV t.name) := by rw [hb.cell]; rfl
        have hlw := hb.lt
        have hTU := nV_list u.name
        have hnx : ((l.take (j + 1)).all (fun u => !(u.kind == t.kind && u.name == t.name))) = !(u.kind == t.kind && u.name == t.name) := by rw [List.take_add_one, hu, List.all_append, hall]; simp
        have hkA := (Kept.refl (fun _ => False) wr).alloc (.cells (tyVals u (.slice ma' u.mem.length mc')) 38)
        have hbad : (u.kind == t.kind && u.name == t.name) = true → ((l.take i).all (fun u => !(u.kind == t.kind && u.name == t.name))) = false := fun h => by
          rw [List.all_eq_false]
          exact ⟨u, List.mem_of_getElem? (i := j) (by rw [List.getElem?_take_of_lt hlt]; exact hu), by rw [h]; simp⟩
        clear c0 c1 c2 c3 c4 c5 c6
        cases e1 : (u.kind == t.kind) with
        | false =>
          rw [e1] at hnx
          clear hbad
          go_wp2
          exact ⟨⟨j + 1, by go_num, by omega, by simpa using hnx, hkA.blk (fun h => h) hb, hK.alloc _⟩, by simp [intOf]; omega⟩
        | true =>
          cases e2 : (u.name == t.name) with
          | false =>
            rw [e1, e2] at hnx
            clear hbad
            go_wp2
            exact ⟨⟨j + 1, by go_num, by omega, by simpa using hnx, hkA.blk (fun h => h) hb, hK.alloc _⟩, by simp [intOf]; omega⟩
          | true =>
            have hbb := hbad (by rw [e1, e2]; rfl)
            clear hbad
            go_wp2
            go_ret
            exact ⟨by rw [hbb]; rfl, hK.alloc _⟩

set_option maxHeartbeats 4000000 in
set_option maxRecDepth 100000 in
theorem alone_any (l : List Ty) (a : Option Addr) (c : Nat) (i : Nat) (t : Ty) (w : World) (h : Tys w (.slice a l.length c) l) (ht : l[i]? = some t) (hf : Fit l) :
    Calls Tryd.prog 32 #[.slice a l.length c, .int .i64 i] w fun e w' => e = .returned (.int .i64 (aloneC l i t)) ∧ Kept (fun _ => False) w w' := by
  have hi := (List.getElem?_eq_some_iff.1 ht).1
  have htm := List.mem_of_getElem? ht
  have h256 := hf.len
  have h64 := hf.mem t htm
  obtain ⟨g, off, mv, rfl, hg, hm, c0, c1, c2, c3, c4, c5, c6⟩ := h.at_ ht
  obtain ⟨ma, mc, rfl⟩ := hm.any
  have hkA : Kept (fun _ => False) w (w.alloc (.cells (tyVals t (.slice ma t.mem.length mc)) 38)) := (Kept.refl _ w).alloc _
  have hB := Blk.new w 38 (tyVals t (.slice ma t.mem.length mc))
  by_cases k1 : t.kind < 1
  · have hA : aloneC l i t = 41 := by unfold aloneC; rw [if_pos (.inl k1)]
    go_enter Tryd.func32, Tryd.ntmps32
    go_wp2_with fail
    go_ret
    exact ⟨by first | rfl | (rw [hA]; rfl), hkA⟩
  by_cases k6 : 6 < t.kind
  · have hA : aloneC l i t = 41 := by unfold aloneC; rw [if_pos (.inr k6)]
    go_enter Tryd.func32, Tryd.ntmps32
    go_wp2_with fail
    go_ret
    exact ⟨by first | rfl | (rw [hA]; rfl), hkA⟩
  have h0 : ¬ (t.kind < 1 ∨ 6 < t.kind) := by omega
  go_enter Tryd.func32, Tryd.ntmps32
  go_wp2_with fail
  refine (called_any l _ c i t _ (h.kept hkA) ht hf).mono ?_
  rintro e w1 ⟨rfl, hk1⟩
  have hb1 := hk1.blk (fun h => h) hB
  have hK1 := hkA.trans hk1 (fun _ _ h => h)
  cases hcl : calledB l i t with
  | false =>
    have hA : aloneC l i t = 44 := by unfold aloneC; rw [if_neg h0, if_pos hcl]
    go_wp2_with fail
    go_ret
    exact ⟨by first | rfl | (rw [hA]; rfl), hK1⟩
  | true =>
  have cc1 := hb1.cell
  go_wp2_with fail
  refine (sized_any t ma t.mem.length mc _).mono ?_
  rintro e w2 ⟨rfl, hk2⟩
  have hb2 := hk2.blk (fun h => h) hb1
  have hK2 := hK1.trans hk2 (fun _ _ h => h)
  clear cc1
  cases hsz : sizedB t with
  | false =>
    have hA : aloneC l i t = 43 := by unfold aloneC; rw [if_neg h0, if_neg (by rw [hcl]; simp), if_pos hsz]
    go_wp2_with fail
    go_ret
    exact ⟨by first | rfl | (rw [hA]; rfl), hK2⟩
  | true =>
  have cc2 := hb2.cell
  go_wp2_with fail
  refine (members_any t ma mc _ (hm.kept hK2) h64 (hf.mname t htm)).mono ?_
  rintro e w3 ⟨rfl, hk3⟩
  have hb3 := hk3.blk (fun h => h) hb2
  have hK3 := hK2.trans hk3 (fun _ _ h => h)
  clear cc2
  cases hmb : membersB t with
  | false =>
    have hA : aloneC l i t = 44 := by unfold aloneC; rw [if_neg h0, if_neg (by rw [hcl]; simp), if_neg (by rw [hsz]; simp), if_pos hmb]
    go_wp2_with fail
    go_ret
    exact ⟨by first | rfl | (rw [hA]; rfl), hK3⟩
  | true =>
  have cc3 := hb3.cell
  go_wp2_with fail
  refine (whole_any t l.length ma mc _ (hm.kept hK3) h64).mono ?_
  rintro e w4 ⟨rfl, hk4⟩
  have hK4 := hK3.trans hk4 (fun _ _ h => h)
  clear cc3
  cases hwh : wholeB t l.length with
  | false =>
    have hA : aloneC l i t = 41 := by unfold aloneC; rw [if_neg h0, if_neg (by rw [hcl]; simp), if_neg (by rw [hsz]; simp), if_neg (by rw [hmb]; simp), if_pos hwh]
    go_wp2_with fail
    go_ret
    exact ⟨by first | rfl | (rw [hA]; rfl), hK4⟩
  | true =>
    have hA : aloneC l i t = 0 := by unfold aloneC; rw [if_neg h0, if_neg (by rw [hcl]; simp), if_neg (by rw [hsz]; simp), if_neg (by rw [hmb]; simp), if_neg (by rw [hwh]; simp)]
    go_wp2_with fail
    go_ret
    exact ⟨by first | rfl | (rw [hA]; rfl), hK4⟩

end Go.Proofs.YtmgdjiplpfeoiaaDoor

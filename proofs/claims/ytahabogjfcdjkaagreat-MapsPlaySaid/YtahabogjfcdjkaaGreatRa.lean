import Derived.Test.YtahabogjfcdjkaaGreatRs
set_option linter.unusedSimpArgs false
set_option linter.unusedVariables false
namespace Go.Proofs.YtahabogjfcdjkaaGreat
open Go.RowKit

/-- how many bytes are hidden -/
def hidOf (hid : Int) (n : Nat) : Int := if (n : Int) < (if hid < 0 then 0 else hid) then (n : Int) else (if hid < 0 then 0 else hid)

theorem naAreas : ∀ w, (isAgg 51).run Tryz.prog w = .ok false w := fun w => by kernel_rfl

set_option maxHeartbeats 1000000 in
set_option maxRecDepth 100000 in
theorem add_any (p : Nat) (v : Value) (L : List Rg) (bv : Value) (l : List UInt8) (wr : Bool) (hid : Int) (w : World) (h : IsMem w p v L) (hb : By w bv l) (hl : l.length ≤ 1000000) (hs : L.length < 100000) :
    Calls Tryz.prog 52 #[.pointer (some ⟨p, 0, none⟩), bv, .bool wr, .int .i64 hid] w fun e w' => e = .returned (.int .i64 ((L.length : Int) + 1)) ∧ ∃ v' g cv,
      IsMem w' p v' (L ++ [⟨g, cv, l, wr, hidOf hid l.length, false⟩]) ∧ (∀ k ∈ blM p v' (L ++ [⟨g, cv, l, wr, hidOf hid l.length, false⟩]), k ∈ blM p v L ∨ w.heap.size ≤ k) ∧ Kept (fun k => k ∈ blM p v L) w w' := by
  obtain ⟨i0, hI0, hI1, hI2, hI3⟩ := info_parts infoArea
  obtain ⟨A, c, rfl⟩ := hb.any
  obtain ⟨A2, c2, rfl⟩ := h.own.any
  have hc0 : w.cell? ⟨p, 0, none⟩ = some (.slice A2 (L.map acell).length c2) := h.blk.cell 0
  have hpl := h.blk.lt
  have hsm := h.small
  simp only [List.length_map] at h hc0 ⊢
  go_enter Tryz.func52, Tryz.ntmps52
  go_wp2_with fail
  refine wp_region_mix [.w, .w, .w, .w, .l, .w, .k, .w, .w, .w, .w, .w, .w, .w, .k, .w, .k, .t, .w, .w, .t] (by kernel_rfl) (by kernel_rfl) (fun w' => w'.cell? ⟨p, 0, none⟩ = some (.slice A2 L.length c2)) ?_
  repeat (refine mix_w1 ?_; go_big_quiet_step (fail); refine wpQuiet_nil ?_)
  refine mix_load1 hc0 rfl 51 (.tmp 12) rfl naAreas ⟨p, 0, none⟩ _ rfl (fun _ h => h) ?_
  simp only [Act.put, List.setIfInBounds_toArray, List.set_cons_succ, List.set_cons_zero]
  repeat (refine mix_w1 ?_; go_big_quiet_step (fail); refine wpQuiet_nil ?_)
  refine mix_k (by exact hc0) fun Q' hQ' => ?_
  go_wp2_with fail
  refine (clone_any _ l _ hb.drew (by omega)).mono ?_
  rintro e w1 ⟨cv, rfl, hO1, hOb1, hk1⟩
  obtain ⟨A3, c3, hcv⟩ := hO1.any
  simp only [List.length_map] at hcv
  subst hcv
  have hc1 : w1.cell? ⟨p, 0, none⟩ = some (.slice A2 L.length c2) := (hk1.cell (p := ⟨p, 0, none⟩) hpl (fun h => h)).trans hc0
  go_wp2_with fail
  refine hQ' _ _ hc1 ?_
  clear hQ' Q'
  repeat (refine mix_w1 ?_; go_big_quiet_step (fail); refine wpQuiet_nil ?_)
  generalize hq : (if (↑l.length : Int) < (if hid < 0 then (0 : Int) else hid) then (↑l.length : Int) else (if hid < 0 then 0 else hid)) = hd
  generalize (if hid < 0 then (0 : Int) else hid) = hd0
  have hq' : hidOf hid l.length = hd := hq
  clear hq
  have HQ := Lib.hid hq'
  clear hq'
  have hO := h.own.drew.kept hk1 (fun _ _ h => h)
  have hk1' : Kept (fun _ => False) w w1 := Kept.trans (Kept.drew (Kept.refl _ w)) hk1 (fun _ _ h => h)
  have hs1 := hk1'.size
  have hpl1 : p < w1.heap.size := by omega
  refine mix_k (by exact hc1) fun Q' hQ' => ?_
  go_wp2_with fail
  refine hQ' _ _ ((World.cell?_alloc_lt _ _ _ (by exact hpl1)).trans hc1) ?_
  clear hQ' Q'
  repeat (refine mix_w1 ?_; go_big_quiet_step (fail); refine wpQuiet_nil ?_)
  have hc2 : (w1.alloc (.cells #[.bool false, .slice A3 l.length c3, .bool wr, .int .i64 hd] 102)).cell? ⟨p, 0, none⟩ = some (.slice A2 L.length c2) := (World.cell?_alloc_lt _ _ _ (by exact hpl1)).trans hc1
  have hOa := hO.alloc (.cells #[.bool false, .slice A3 l.length c3, .bool wr, .int .i64 hd] 102)
  have hO1a := hO1.alloc (.cells #[.bool false, .slice A3 l.length c3, .bool wr, .int .i64 hd] 102)
  have hka : Kept (fun _ => False) w (w1.alloc (.cells #[.bool false, .slice A3 l.length c3, .bool wr, .int .i64 hd] 102)) := hk1'.alloc _
  have hbn := Blk.new w1 102 #[.bool false, .slice A3 l.length c3, .bool wr, .int .i64 hd]
  have hs2 : (w1.alloc (.cells #[.bool false, .slice A3 l.length c3, .bool wr, .int .i64 hd] 102)).heap.size = w1.heap.size + 1 := by simp
  generalize hw2 : w1.alloc (.cells #[.bool false, .slice A3 l.length c3, .bool wr, .int .i64 hd] 102) = w2 at *
  generalize hgn : w1.heap.size = gn at *
  clear hw2
  have hpl2 : p < w2.heap.size := by omega
  refine mix_k (by exact hc2) fun Q' hQ' => ?_
  go_wp2_with fail
  refine hQ' _ _ ((World.cell?_alloc_lt _ _ _ (by exact hpl2)).trans hc2) ?_
  clear hQ' Q'
  refine mix_t fun Q' hQ' => ?_
  go_wp2_with (at_builtin; refine wpList_push (w := w2) rfl (.tmp 13) (.tmp 25) 51 rfl Tryz.underlying51 hI0 hI1 hI2 hI3 rfl (by omega) (.slice A2 L.length c2) (L.map acell) (acell ⟨gn, .slice A3 l.length c3, l, wr, hd, false⟩) rfl (by rw [hs2]; rfl) hOa rfl (acell_one _) (by simp; omega) (by omega) ?_; intro g5 cap5 w5 hS5 hk5 hg5)
  simp only [List.length_map] at hS5
  have hpg5 : p ≠ g5 := fun e => by
    subst e
    rcases hg5 with e | e
    · have hn := h.nod
      unfold blM at hn
      exact (List.nodup_cons.1 hn).1 (List.mem_append_left _ (mem_ob.2 e))
    · omega
  have hpn : (Value.slice A2 L.length c2).ownBlock ≠ some p := fun e => by
    have hn := h.nod
    unfold blM at hn
    exact (List.nodup_cons.1 hn).1 (List.mem_append_left _ (mem_ob.2 e))
  have hblk5 : Blk w5 p 53 #[.slice A2 L.length c2] := hk5.blk hpn (hka.blk (fun h => h) h.blk)
  have hc5 := hblk5.cell
  have hf5 := hblk5.frozen
  repeat (refine mix_w1 ?_; go_big_quiet_step (fail); refine wpQuiet_nil ?_)
  refine mix_t fun Q' hQ' => ?_
  go_wp2
  refine mix_done ?_
  have hblk6 := hblk5.set_ 0 (.slice (some ⟨g5, 0, none⟩) (L.length + 1) cap5)
  have hk6 : Kept (fun k => k = p) w5 (w5.setCell ⟨p, 0, none⟩ (.slice (some ⟨g5, 0, none⟩) (L.length + 1) cap5)) := Kept.setCell (F := fun k => k = p) (Kept.refl _ w5) (fun _ => rfl) _
  have hS6 := hS5.kept hk6 (fun g' hg' e => by simp only [Value.ownBlock, Option.some.injEq] at hg'; omega)
  have hcv5 : ∀ g, (Value.slice A3 l.length c3).ownBlock = some g → w.heap.size ≤ g ∧ g < gn := fun g hg => ⟨hOb1 g hg, by have := hO1.lt g hg; omega⟩
  have hO6 : Bs (w5.setCell ⟨p, 0, none⟩ (.slice (some ⟨g5, 0, none⟩) (L.length + 1) cap5)) (.slice A3 l.length c3) l := (hO1a.kept hk5 (fun g hg e => by
    have := hcv5 g hg
    have := h.own.lt g e
    omega)).kept hk6 (fun g hg e => by have := hcv5 g hg; omega)
  have hb6 : Blk (w5.setCell ⟨p, 0, none⟩ (.slice (some ⟨g5, 0, none⟩) (L.length + 1) cap5)) gn 102 (Rg.cells ⟨gn, .slice A3 l.length c3, l, wr, hd, false⟩) := hk6.blk (by omega) (hk5.blk (fun e => by have := h.own.lt _ e; omega) hbn)
  have hkall : Kept (fun k => k = p ∨ (Value.slice A2 L.length c2).ownBlock = some k) w (w5.setCell ⟨p, 0, none⟩ (.slice (some ⟨g5, 0, none⟩) (L.length + 1) cap5)) :=
    ((hka.mono (fun k _ e => e.elim)).trans hk5 (fun k _ e => .inr e)).trans hk6 (fun k _ e => .inl e)
  have hadd := h.add (r := ⟨gn, .slice A3 l.length c3, l, wr, hd, false⟩) hkall hblk6 (by simpa using hS6) ⟨hb6, hO6, hl⟩ (fun g hg => by
    simp only [Value.ownBlock, Option.some.injEq] at hg
    subst hg
    rcases hg5 with e | e
    · exact .inl e
    · refine .inr ⟨by omega, by show g5 ≠ gn; omega, fun e2 => ?_⟩
      have := hcv5 g5 e2
      omega) (by show w.heap.size ≤ gn; omega) (fun g hg => ⟨(hcv5 g hg).1, by have := (hcv5 g hg).2; show g ≠ gn; omega⟩) hs
  have HADD := Lib.hid hadd
  have hfin : Kept (fun k => k ∈ blM p (.slice A2 L.length c2) L) w (w5.setCell ⟨p, 0, none⟩ (.slice (some ⟨g5, 0, none⟩) (L.length + 1) cap5)) := hkall.mono (fun k _ e => by
    unfold blM
    rcases e with rfl | e
    · exact List.mem_cons_self ..
    · exact List.mem_cons_of_mem _ (List.mem_append_left _ (mem_ob.2 e)))
  have hc6 := hblk6.cell
  simp only [List.setIfInBounds_toArray, List.set_cons_zero] at hc6
  clear hadd hkall hb6 hO6 hS6 hk6 hblk6 hc5 hf5 hblk5 hbn
  generalize w5.setCell ⟨p, 0, none⟩ (.slice (some ⟨g5, 0, none⟩) (L.length + 1) cap5) = w6 at *
  go_wp2_with fail
  go_ret
  refine ⟨rfl, .slice (some ⟨g5, 0, none⟩) (L.length + 1) cap5, gn, .slice A3 l.length c3, ?_⟩
  rw [HQ.out]
  exact ⟨HADD.out.1, HADD.out.2, hfin⟩

end Go.Proofs.YtahabogjfcdjkaaGreat

import Derived.Test.YtaehmaocibimeaaHeap
set_option linter.unusedSimpArgs false
set_option linter.unusedVariables false
namespace Go.Proofs.Ytaehmaocibimeaa
open Go.RowKit

def popX (L : List Tm) (n : Nat) : List Tm := (downL (swp L 0 n) 0 n).1
theorem popX_len (L : List Tm) (n : Nat) : (popX L n).length = L.length := by unfold popX; rw [downL_len', swp_len]
theorem split_last {α : Type} {l : List α} {n : Nat} (h : l.length = n + 1) : l = l.take n ++ [l[n]'(by omega)] := by
  rw [← List.take_succ_eq_append_getElem (by omega), List.take_of_length_le (by omega)]

set_option maxHeartbeats 400000 in
theorem hpop_any (a : Addr) (v : Value) (L : List Tm) (n : Nat) (w : World) (h : D w a v L) (hL : L.length = n + 1) :
    Calls Try.prog 30 #[.iface 73 (.pointer (some a))] w fun e w' => ∃ x, (popX L n)[n]? = some x ∧ e = .returned (.iface 70 (.agg x.cells.toArray)) ∧ ∃ v', D w' a v' ((popX L n).take n) ∧ v'.ownBlock = v.ownBlock ∧ Kept (fun k => k = a.block ∨ v.ownBlock = some k) w w' ∧ ∀ t cs, Blk w a.block t cs → Blk w' a.block t (cs.setIfInBounds a.off v') := by
  obtain ⟨A, c, rfl⟩ := h.own.any
  simp only [List.length_map] at h ⊢
  rw [hL] at h ⊢
  have hm := m_len a w h.cell
  have hm2 := m_swap a w h.cell
  have hm3 := m_pop a
  have hsm : n + 1 ≤ 1000000 := by have := h.small; omega
  have hlen := popX_len L n
  have hsp := split_last (l := popX L n) (n := n) (by omega)
  have hget : (popX L n)[n]? = some ((popX L n)[n]'(by omega)) := List.getElem?_eq_getElem _
  generalize (popX L n)[n] = x at *
  have HG := Lib.hid hget
  have HS := Lib.hid hsp
  have HL := Lib.hid hL
  clear hget hsp hL hlen
  go_enter Try.func30, Try.ntmps30
  go_wp2_with fail
  refine (len_any _ _ _ _).mono ?_; rintro e w1 ⟨rfl, rfl⟩
  go_wp2_with fail
  refine (h.swap 0 n rfl (by have := HL.out; omega) rfl (by have := HL.out; omega)).mono ?_; rintro e w1 ⟨rfl, hD1, hk1⟩
  go_wp2_with fail
  refine (down_any a _ (swp L 0 n) 0 n w1 hD1 (by omega) (by rw [swp_len]; have := HL.out; omega)).mono ?_; rintro e w2 ⟨rfl, hD2, hk2⟩
  go_wp2_with fail
  have hD3 : D w2 a (.slice A (n + 1) c) ((popX L n).take n ++ [x]) := by rw [← HS.out]; exact hD2
  refine (duePop_any a _ _ x w2 hD3).mono ?_; rintro e w3 ⟨rfl, v', hD4, hv', hk4, hb4⟩
  go_wp2_with fail
  go_ret
  refine ⟨x, HG.out, rfl, v', hD4, hv', ?_, fun t cs hb => hb4 t cs (hk2.blk h.ne (hk1.blk h.ne hb))⟩
  exact ((hk1.trans hk2 (fun _ _ h => h)).mono (fun _ _ h => Or.inr h)).trans hk4 (fun _ _ h => Or.inl h)

theorem nagg64 : ∀ w, (isAgg 64).run Try.prog w = .ok false w := fun w => by kernel_rfl

theorem ta70 : ∀ (v : Value) (w : World), (Instr.typeAssert (.iface 70 v) 20 70 false).run Try.prog w = .ok v w := fun v w => by kernel_rfl

set_option maxHeartbeats 400000 in
theorem push_any (a : Addr) (v : Value) (L : List Tm) (x : Tm) (w : World) (h : D w a v L) (hs : L.length < 1000000) :
    Calls Try.prog 27 #[.pointer (some a), .iface 70 (.agg x.cells.toArray)] w fun e w' => e = .returned (.tuple #[]) ∧ ∃ v', D w' a v' (L ++ [x]) ∧ (∀ g, v'.ownBlock = some g → v.ownBlock = some g ∨ w.heap.size ≤ g) ∧ Kept (fun k => k = a.block ∨ v.ownBlock = some k) w w' ∧ ∀ t cs, Blk w a.block t cs → Blk w' a.block t (cs.setIfInBounds a.off v') := by
  obtain ⟨i0, hI0, hI1, hI2, hI3⟩ := info_parts info70
  have hlt := h.lt
  obtain ⟨p, off, sp⟩ := a
  obtain rfl : sp = none := spot_none h.cell
  have hp : p < w.heap.size := hlt
  have hcell := h.cell
  have hfro := h.fro
  have hne := h.ne
  have hta := ta70
  rw [show x.cells.toArray = #[.int .i64 x.id, .int .i64 x.prog, .int .i64 x.at_, .bool x.has, .int .u64 x.when, .int .i64 x.start] from rfl]
  go_enter Try.func27, Try.ntmps27
  refine wp_region_mix [.w, .w, .w, .l, .w, .w, .k, .t, .w, .t] (by kernel_rfl) (by kernel_rfl) (fun w' => w'.cell? ⟨p, off, none⟩ = some v) ?_
  repeat (refine mix_w1 ?_; go_big_quiet_step (fail); refine wpQuiet_nil ?_)
  refine mix_load1 hcell rfl 64 (.tmp 6) rfl nagg64 ⟨p, off, none⟩ v rfl (fun _ h => h) ?_
  simp only [Act.put, List.setIfInBounds_toArray, List.set_cons_succ, List.set_cons_zero]
  repeat (refine mix_w1 ?_; go_big_quiet_step (fail); refine wpQuiet_nil ?_)
  refine mix_k (by exact hcell) fun Q' hQ' => ?_
  go_wp2
  refine hQ' _ _ ((World.cell?_alloc_lt _ _ _ (by exact hp)).trans hcell) ?_
  clear hQ' Q'
  refine mix_t fun Q' hQ' => ?_
  go_wp2_with (at_builtin; refine wpList_push rfl (.tmp 7) (.tmp 10) 64 rfl Try.underlying64 hI0 hI1 hI2 hI3 rfl (by omega) v (L.map Tm.cells) x.cells rfl rfl h.own.drew (Tm.cells_len x) (Tm.cells_one x) (by simp; omega) (by omega) ?_; intro g cap w1 hS hk hg)
  have hc1 : w1.cell? ⟨p, off, none⟩ = some v := (hk.cell (p := ⟨p, off, none⟩) hp hne).trans hcell
  have hf1 : w1.frozen? ⟨p, off, none⟩ = false := (hk.frozen (p := ⟨p, off, none⟩) hp hne).trans hfro
  repeat (refine mix_w1 ?_; go_big_quiet_step (fail); refine wpQuiet_nil ?_)
  refine mix_t fun Q' hQ' => ?_
  go_wp2
  refine mix_nil ?_
  go_end0
  have hne2 : (Value.slice (some ⟨g, 0, none⟩) (L.length + 1) cap).ownBlock ≠ some p := by
    intro e
    simp only [Value.ownBlock, Option.some.injEq] at e
    rcases hg with hg | hg
    · exact hne (by rw [hg, e])
    · have : w.heap.size ≤ g := hg
      omega
  have hS' : Own w1 (.slice (some ⟨g, 0, none⟩) (L.length + 1) cap) (L ++ [x]) := by
    unfold Own
    rw [List.map_append]
    simpa using hS
  refine ⟨rfl, .slice (some ⟨g, 0, none⟩) (L.length + 1) cap, ⟨World.cell?_setCell_same _ _ _ hc1, by simp [hf1], hS'.far (by exact hne2) _, hne2, by simp; omega⟩, ?_, ?_, fun t cs hb => (hk.blk hne hb.drew).set_ off _⟩
  · intro g' hg'
    simp only [Value.ownBlock, Option.some.injEq] at hg'
    subst hg'
    exact hg
  · exact Kept.setCell (F := fun k => k = p ∨ v.ownBlock = some k) (Kept.trans (Kept.drew (Kept.refl _ w)) hk (fun _ _ h => .inr h)) (p := ⟨p, off, none⟩) (fun _ => .inl rfl) _

end Go.Proofs.Ytaehmaocibimeaa

import Derived.Test.YtaehmaocibimeaaDue
set_option linter.unusedSimpArgs false
set_option linter.unusedVariables false
namespace Go.Proofs.Ytaehmaocibimeaa
open Go.RowKit

theorem downL_len (n : Nat) : ∀ (m : Nat) (L : List Tm) (i : Nat), n - i ≤ m → (downL L i n).1.length = L.length := by
  intro m
  induction m with
  | zero => intro L i h; rw [downL_end (by omega)]
  | succ m ih =>
    intro L i h
    by_cases h1 : 2 * i + 1 < n
    · by_cases hr : 2 * i + 2 < n ∧ ltAt L (2 * i + 2) (2 * i + 1) = true
      · rw [downL_r hr.1 hr.2]
        split
        · exact (ih _ _ (by omega)).trans (swp_len ..)
        · rfl
      · rw [downL_l h1 (by cases hx : ltAt L (2 * i + 2) (2 * i + 1) <;> simp_all)]
        split
        · exact (ih _ _ (by omega)).trans (swp_len ..)
        · rfl
    · rw [downL_end h1]
theorem downL_len' (L : List Tm) (i n : Nat) : (downL L i n).1.length = L.length := downL_len n _ L i (Nat.le_refl _)

def fixL (L : List Tm) (i : Nat) : List Tm := if i < (downL L i L.length).2 then (downL L i L.length).1 else upL (downL L i L.length).1 i
theorem fixL_a {L : List Tm} {i : Nat} (h : i < (downL L i L.length).2) : fixL L i = (downL L i L.length).1 := if_pos h
theorem fixL_b {L : List Tm} {i : Nat} (h : ¬ i < (downL L i L.length).2) : fixL L i = upL (downL L i L.length).1 i := if_neg h

set_option maxHeartbeats 400000 in
theorem fix_any (a : Addr) (v : Value) (L : List Tm) (i : Nat) (w : World) (h : D w a v L) (hi : i < L.length) :
    Calls Try.prog 28 #[.iface 73 (.pointer (some a)), .int .i64 i] w fun e w' => e = .returned (.tuple #[]) ∧ D w' a v (fixL L i) ∧ Kept (fun k => v.ownBlock = some k) w w' := by
  obtain ⟨A, c, rfl⟩ := h.own.any
  simp only [List.length_map] at h ⊢
  have hm := m_len a w h.cell
  have hsm := h.small
  go_enter Try.func28, Try.ntmps28
  cases hd : decide (i < (downL L i L.length).2)
  · go_wp2_with (first
      | (go_at_call 29; refine (len_any _ _ _ _).mono ?_; rintro e w1 ⟨rfl, rfl⟩)
      | (go_at_call 35; refine (down_any a _ L i L.length w h (by omega) (Nat.le_refl _)).mono ?_; rintro e w1 ⟨rfl, hD1, hk1⟩)
      | (go_at_call 36; refine (up_any a _ _ i w1 hD1 (by rw [downL_len']; exact hi)).mono ?_; rintro e w2 ⟨rfl, hD2, hk2⟩))
    go_end0
    simp only [decide_eq_false_iff_not] at hd
    rw [fixL_b hd]
    exact ⟨rfl, hD2, hk1.trans hk2 (fun _ _ h => h)⟩
  · go_wp2_with (first
      | (go_at_call 29; refine (len_any _ _ _ _).mono ?_; rintro e w1 ⟨rfl, rfl⟩)
      | (go_at_call 35; refine (down_any a _ L i L.length w h (by omega) (Nat.le_refl _)).mono ?_; rintro e w1 ⟨rfl, hD1, hk1⟩))
    go_end0
    simp only [decide_eq_true_eq] at hd
    rw [fixL_a hd]
    exact ⟨rfl, hD1, hk1⟩

theorem spot_none {w : World} {a : Addr} {v : Value} (h : w.cell? a = some v) : a.spot = none := by
  unfold World.cell? at h
  split at h
  · split at h
    · cases h
    · rename_i hs; simpa using hs
  · cases h

theorem D.alloc {w : World} {a : Addr} {v : Value} {L : List Tm} (h : D w a v L) (o : Obj) : D (w.alloc o) a v L :=
  ⟨(World.cell?_alloc_lt w o a h.lt).trans h.cell, (World.frozen?_alloc_old w o a (Nat.ne_of_lt h.lt)).trans h.fro, h.own.alloc o, h.ne, h.small⟩
theorem D.put {w : World} {a : Addr} {v v' : Value} {L L' : List Tm} (h : D w a v L) (ho : Own w v' L') (hne : v'.ownBlock ≠ some a.block) (hs : L'.length ≤ 1000000) : D (w.setCell a v') a v' L' :=
  ⟨by simp [World.cell?_setCell_same, h.cell], by simp [h.fro], ho.far hne v', hne, hs⟩

set_option maxHeartbeats 400000 in
theorem duePop_any (a : Addr) (v : Value) (L : List Tm) (x : Tm) (w : World) (h : D w a v (L ++ [x])) :
    Calls Try.prog 56 #[.pointer (some a)] w fun e w' => e = .returned (.iface 70 (.agg x.cells.toArray)) ∧ ∃ v', D w' a v' L ∧ v'.ownBlock = v.ownBlock ∧ Kept (fun k => k = a.block) w w' ∧ ∀ t cs, Blk w a.block t cs → Blk w' a.block t (cs.setIfInBounds a.off v') := by
  obtain ⟨g, c, rfl, hc, hg⟩ := h.own.some_ (by simp)
  have hlt := h.lt
  obtain ⟨p, off, sp⟩ := a
  obtain rfl : sp = none := spot_none h.cell
  have hlt : p < w.heap.size := hlt
  have hcell := h.cell
  have hfro := h.fro
  have hsm := h.small
  have hx := h.own.cells (i := L.length) (by simp)
  simp only [List.getElem_append_right (Nat.le_refl _), Nat.sub_self, List.getElem_cons_zero] at hx
  obtain ⟨hx0, hx1, hx2, hx3, hx4, hx5⟩ := hx
  simp only [List.length_map, List.length_append, List.length_cons, List.length_nil] at *
  have hne := h.ne
  go_enter Try.func56, Try.ntmps56
  go_wp2
  go_ret
  refine ⟨rfl, .slice (some ⟨g, 0, none⟩) L.length c, ?_, rfl, ?_, fun t cs hb => (hb.set_ off _).alloc _⟩
  · have ho := h.own
    unfold Own at ho
    rw [List.map_append] at ho
    have ho2 := Sl.pre ho
    simp only [List.length_map] at ho2
    exact (h.put ho2 hne (by omega)).alloc _
  · exact Kept.alloc (F := fun k => k = p) (Kept.setCell (F := fun k => k = p) (Kept.refl _ w) (fun _ => rfl) _) _

end Go.Proofs.Ytaehmaocibimeaa

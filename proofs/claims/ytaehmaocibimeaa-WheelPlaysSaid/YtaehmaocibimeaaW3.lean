import Derived.Test.YtaehmaocibimeaaW2
set_option linter.unusedSimpArgs false
set_option linter.unusedVariables false
namespace Go.Proofs.Ytaehmaocibimeaa
open Go.RowKit

def cntB (S : WS) (x : Tm) : Bool := match lookI S.all x.id with
  | some (_, t) => t.start == x.start && decide (0 < t.start)
  | none => false

set_option maxHeartbeats 400000 in
theorem counts_none (p m : Nat) (v : Value) (S : WS) (x : Tm) (w : World) (h : IsW w p m v S) (hl : lookI S.all x.id = none) :
    Calls Try.prog 31 #[.pointer (some ⟨p, 0, none⟩), .agg x.cells.toArray] w fun e w' => e = .returned (.bool false) ∧ Kept (fun _ => False) w w' := by
  have hp := h.blk.lt
  have hb := h.blk.cell
  have hlk := ((h.map.alloc (.cells #[.int .i64 x.id, .int .i64 x.prog, .int .i64 x.at_, .bool x.has, .int .u64 x.when, .int .i64 x.start] 70)).drew).look2 (P := Try.prog) Try.underlying62 Try.underlying3 zero67 x.id
  rw [look_ptrs, hl] at hlk
  simp only [Option.map_none, Option.getD_none, Option.isSome_none] at hlk
  rw [show x.cells.toArray = #[.int .i64 x.id, .int .i64 x.prog, .int .i64 x.at_, .bool x.has, .int .u64 x.when, .int .i64 x.start] from rfl]
  go_enter Try.func31, Try.ntmps31
  go_wp2
  refine wp_region_mix0 [.w, .w, .w, .l, .w, .l, .l, .w, .w, .w, .t, .t] (by kernel_rfl) (by kernel_rfl) ?_
  repeat (first
    | (refine mix_w1 ?_; go_big_quiet_step (fail); refine wpQuiet_nil ?_)
    | (refine mix_l1 rfl ?_; go_big_quiet_step (fail); refine wpQuiet_nil ?_)
    | (refine mix_t fun Q' hQ' => ?_; go_wp2))
  refine mix_nil ?_
  go_wp2
  refine wp_region_mix0 [.w, .w, .w, .w, .w, .l, .w, .l, .w, .w, .w, .w, .w, .w, .l, .w, .w, .t] (by kernel_rfl) (by kernel_rfl) ?_
  repeat (first
    | (refine mix_w1 ?_; go_big_quiet_step (fail); refine wpQuiet_nil ?_)
    | (refine mix_l1 rfl ?_; go_big_quiet_step (fail); refine wpQuiet_nil ?_)
    | (refine mix_t fun Q' hQ' => ?_; go_wp2))
  refine mix_nil ?_
  go_wp2
  go_ret
  exact ⟨rfl, Kept.drew (Kept.drew (Kept.alloc (Kept.refl _ w) _))⟩

set_option maxHeartbeats 400000 in
theorem counts_some (p m : Nat) (v : Value) (S : WS) (x : Tm) (w : World) (h : IsW w p m v S) {g : Nat} {t : Tm} (hl : lookI S.all x.id = some (g, t)) :
    Calls Try.prog 31 #[.pointer (some ⟨p, 0, none⟩), .agg x.cells.toArray] w fun e w' => e = .returned (.bool (t.start == x.start && decide (0 < t.start))) ∧ Kept (fun _ => False) w w' := by
  have hp := h.blk.lt
  have hb := h.blk.cell
  have hlk := ((h.map.alloc (.cells #[.int .i64 x.id, .int .i64 x.prog, .int .i64 x.at_, .bool x.has, .int .u64 x.when, .int .i64 x.start] 70)).drew).look2 (P := Try.prog) Try.underlying62 Try.underlying3 zero67 x.id
  rw [look_ptrs, hl] at hlk
  simp only [Option.map_some, Option.getD_some, Option.isSome_some] at hlk
  have hg := h.tms _ (look_mem hl)
  have hglt : g < w.heap.size := hg.lt
  have hgc := hg.cell
  simp only [Tm.cells] at hgc
  rw [show x.cells.toArray = #[.int .i64 x.id, .int .i64 x.prog, .int .i64 x.at_, .bool x.has, .int .u64 x.when, .int .i64 x.start] from rfl]
  cases h1 : t.start == x.start
  · go_enter Try.func31, Try.ntmps31
    go_wp2
    refine wp_region_mix0 [.w, .w, .w, .l, .w, .l, .l, .w, .w, .w, .t, .t] (by kernel_rfl) (by kernel_rfl) ?_
    repeat (first
      | (refine mix_w1 ?_; go_big_quiet_step (fail); refine wpQuiet_nil ?_)
      | (refine mix_l1 rfl ?_; go_big_quiet_step (fail); refine wpQuiet_nil ?_)
      | (refine mix_t fun Q' hQ' => ?_; go_wp2))
    refine mix_nil ?_
    go_wp2
    refine wp_region_mix0 [.w, .w, .w, .w, .w, .l, .w, .l, .w, .w, .w, .w, .w, .w, .l, .w, .w, .t] (by kernel_rfl) (by kernel_rfl) ?_
    repeat (first
      | (refine mix_w1 ?_; go_big_quiet_step (fail); refine wpQuiet_nil ?_)
      | (refine mix_l1 rfl ?_; go_big_quiet_step (fail); refine wpQuiet_nil ?_)
      | (refine mix_t fun Q' hQ' => ?_; go_wp2))
    refine mix_nil ?_
    go_wp2
    go_ret
    exact ⟨rfl, Kept.drew (Kept.drew (Kept.alloc (Kept.refl _ w) _))⟩
  · go_enter Try.func31, Try.ntmps31
    go_wp2
    refine wp_region_mix0 [.w, .w, .w, .l, .w, .l, .l, .w, .w, .w, .t, .t] (by kernel_rfl) (by kernel_rfl) ?_
    repeat (first
      | (refine mix_w1 ?_; go_big_quiet_step (fail); refine wpQuiet_nil ?_)
      | (refine mix_l1 rfl ?_; go_big_quiet_step (fail); refine wpQuiet_nil ?_)
      | (refine mix_t fun Q' hQ' => ?_; go_wp2))
    refine mix_nil ?_
    go_wp2
    refine wp_region_mix0 [.w, .w, .w, .w, .w, .l, .w, .l, .w, .w, .w, .w, .w, .w, .l, .w, .w, .t] (by kernel_rfl) (by kernel_rfl) ?_
    repeat (first
      | (refine mix_w1 ?_; go_big_quiet_step (fail); refine wpQuiet_nil ?_)
      | (refine mix_l1 rfl ?_; go_big_quiet_step (fail); refine wpQuiet_nil ?_)
      | (refine mix_t fun Q' hQ' => ?_; go_wp2))
    refine mix_nil ?_
    go_wp2
    go_ret
    exact ⟨rfl, Kept.drew (Kept.drew (Kept.alloc (Kept.refl _ w) _))⟩

theorem counts_any (p m : Nat) (v : Value) (S : WS) (x : Tm) (w : World) (h : IsW w p m v S) :
    Calls Try.prog 31 #[.pointer (some ⟨p, 0, none⟩), .agg x.cells.toArray] w fun e w' => e = .returned (.bool (cntB S x)) ∧ Kept (fun _ => False) w w' := by
  unfold cntB
  cases hl : lookI S.all x.id with
  | none => exact counts_none p m v S x w h hl
  | some y => exact counts_some p m v S x w h hl

theorem IsW.popped {w w' : World} {p m : Nat} {v v' : Value} {S : WS} {rest : List Tm} (h : IsW w p m v S) (hD : D w' ⟨p, 3, none⟩ v' rest) (hk : Kept (fun k => k = p ∨ v.ownBlock = some k) w w')
    (hb : Blk w' p 66 #[.int .u64 S.now, .int .i64 S.starts, .map (some m), v']) (ho : v'.ownBlock = v.ownBlock) (hlen : rest.length ≤ S.due.length) : IsW w' p m v' { S with due := rest } := by
  refine ⟨hb, h.map.kept hk (fun e => by rcases e with e | e; exact h.m_ne_p e; exact h.ne_m e), fun x hx => hk.blk (fun e => by rcases e with e | e; exact h.g_ne_p hx e; exact h.sep x hx e) (h.tms x hx), hD.own, fun x hx => by rw [ho]; exact h.sep x hx, h.nod, h.now0, h.now1, h.st0, h.st1, ?_⟩
  have := h.small
  show ((rest.length : Nat) : Int) ≤ S.starts
  omega

end Go.Proofs.Ytaehmaocibimeaa

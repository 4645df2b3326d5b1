import Derived.Test.YtaehmaocibimeaaO1
set_option linter.unusedSimpArgs false
set_option linter.unusedVariables false
namespace Go.Proofs.Ytaehmaocibimeaa
open Go.RowKit

set_option maxHeartbeats 400000 in
theorem start_over (p m : Nat) (v : Value) (S : WS) (id after : Int) (w : World) (h : IsW w p m v S) {g : Nat} {t : Tm} (hl : lookI S.all id = some (g, t)) (ht : t.has = true) (ha : 18446744073709551615 - S.now < after) (ha2 : after < 18446744073709551616) (hs : S.starts < 1000000) :
    Calls Try.prog 10 #[.pointer (some ⟨p, 0, none⟩), .int .i64 id, .int .u64 after] w fun e w' => e = .returned (.int .i64 0) ∧
      ∃ v', IsW w' p m v' { now := S.now, starts := S.starts + 1, all := updI S.all id (g, t.go (S.now + (18446744073709551615 - S.now)) (S.starts + 1)), due := fixL (S.due ++ [t.go (S.now + (18446744073709551615 - S.now)) (S.starts + 1)]) S.due.length } ∧
        (∀ g', v'.ownBlock = some g' → v.ownBlock = some g' ∨ w.heap.size ≤ g') ∧ Kept (fun k => k = p ∨ k = g ∨ v.ownBlock = some k) w w' := by
  have hp := h.blk.lt
  have hb := h.blk.cell
  have hfp := h.blk.frozen
  have hlk := h.map.look2 (P := Try.prog) Try.underlying62 Try.underlying3 zero67 id
  rw [look_ptrs, hl] at hlk
  have hg := h.tms _ (look_mem hl)
  have hgp := h.g_ne_p (look_mem hl)
  have hgc := hg.cell
  have hgf := hg.frozen
  simp only [Tm.cells, ht] at hgc
  have hn0 := h.now0
  have hn1 := h.now1
  have hs0 := h.st0
  simp only [Option.map_some, Option.getD_some, Option.isSome_some] at hlk
  have hsep := h.sep _ (look_mem hl)
  have hnep := h.ne_p
  go_enter Try.func10, Try.ntmps10
  go_wp2
  refine wp_region_mix0 [.w, .w, .w, .w, .w, .l, .w, .w, .w, .w, .l, .w, .w, .w, .w, .w, .w, .l, .w, .w, .t, .w, .w, .t] (by kernel_rfl) (by kernel_rfl) ?_
  repeat (first
    | (refine mix_w1 ?_; go_big_quiet_step (fail); refine wpQuiet_nil ?_)
    | (refine mix_l1 rfl ?_; go_big_quiet_step (fail); refine wpQuiet_nil ?_)
    | (refine mix_t fun Q' hQ' => ?_; go_wp2))
  refine mix_nil ?_
  -- the world behind the two stores
  generalize hw2 : (((w.setCell ⟨p, 1, none⟩ (.int .i64 (S.starts + 1))).setCell ⟨g, 4, none⟩ (.int .u64 (S.now + (18446744073709551615 - S.now)))).setCell ⟨g, 5, none⟩ (.int .i64 (S.starts + 1))).drew = w2
  have hk2 : Kept (fun k => k = p ∨ k = g) w w2 := by
    rw [← hw2]
    exact Kept.drew (Kept.setCell (F := fun k => k = p ∨ k = g) (Kept.setCell (F := fun k => k = p ∨ k = g) (Kept.setCell (F := fun k => k = p ∨ k = g) (Kept.refl _ w) (fun _ => .inl rfl) _) (fun _ => .inr rfl) _) (fun _ => .inr rfl) _)
  have hbp2 : Blk w2 p 66 #[.int .u64 S.now, .int .i64 (S.starts + 1), .map (some m), v] := by
    rw [← hw2]
    exact (((h.blk.set_ 1 _).far (p := ⟨g, 4, none⟩) (fun e => hgp e.symm) _).far (p := ⟨g, 5, none⟩) (fun e => hgp e.symm) _)
  have hbg2 : Blk w2 g 70 (t.go (S.now + (18446744073709551615 - S.now)) (S.starts + 1)).cells.toArray := by
    rw [← hw2]
    have hg' : Blk w g 70 #[.int .i64 t.id, .int .i64 t.prog, .int .i64 t.at_, .bool true, .int .u64 t.when, .int .i64 t.start] := by rw [← ht]; exact hg
    exact (((hg'.far (p := ⟨p, 1, none⟩) hgp _).set_ 4 _).set_ 5 _)
  have hown2 : Own w2 v S.due := Sl.kept hk2 h.own (fun g' hg' e => by rcases e with rfl | rfl; exact hnep hg'; exact hsep hg')
  have hD : D w2 ⟨p, 3, none⟩ v S.due := ⟨by rw [hbp2.cell]; rfl, hbp2.frozen 3, hown2, hnep, by have := h.small; have := h.st1; omega⟩
  clear hw2
  have hcp2 := hbp2.cell
  have hcg2 := hbg2.cell
  simp only [Tm.cells, Tm.go] at hcg2
  clear hb hfp hlk hgc hgf
  have hlt2 := hk2.size
  go_wp2_with (go_at_call 27; refine (push_any ⟨p, 3, none⟩ v S.due (t.go (S.now + (18446744073709551615 - S.now)) (S.starts + 1)) w2 hD (by have := h.small; omega)).mono ?_; rintro e w3 ⟨rfl, v3, hD3, hv3, hk3, hb3⟩)
  have hbp3 := hb3 66 _ hbp2
  obtain ⟨A3, c3, rfl⟩ := hD3.own.any
  simp only [List.length_map, List.length_append, List.length_cons, List.length_nil, Nat.zero_add] at hD3 hv3 hbp3
  have hcp3 := hbp3.cell
  have hsm3 : S.due.length ≤ 1000000 := by have := h.small; omega
  clear hcp2 hcg2
  refine wp_region_mix0 [.w, .w, .w, .w, .w, .w, .w, .l, .t, .w, .t] (by kernel_rfl) (by kernel_rfl) ?_
  repeat (first
    | (refine mix_w1 ?_; go_big_quiet_step (fail); refine wpQuiet_nil ?_)
    | (refine mix_l1 rfl ?_; go_big_quiet_step (fail); refine wpQuiet_nil ?_))
  refine mix_t fun Q' hQ' => ?_
  go_wp2_with (go_at_call 29; refine (len_any _ _ _ _).mono ?_; rintro e w4 ⟨rfl, rfl⟩)
  repeat (refine mix_w1 ?_; go_big_quiet_step (fail); refine wpQuiet_nil ?_)
  refine mix_t fun Q' hQ' => ?_
  go_wp2_with (go_at_call 28; refine (fix_any ⟨p, 3, none⟩ _ (S.due ++ [t.go (S.now + (18446744073709551615 - S.now)) (S.starts + 1)]) S.due.length _ (hD3.drewN 1) (by simp)).mono ?_; rintro e w4 ⟨rfl, hD4, hk4⟩)
  refine mix_nil ?_
  go_wp2
  go_ret
  have hk4' : Kept (fun k => (Value.slice A3 (S.due.length + 1) c3).ownBlock = some k) w3 w4 := Kept.trans (Kept.drewN (Kept.refl _ w3) 1) hk4 (fun _ _ h => h)
  have hne3 : (Value.slice A3 (S.due.length + 1) c3).ownBlock ≠ some p := hD3.ne
  have hgm := h.g_ne_m (look_mem hl)
  have hng3 : ∀ x ∈ S.all, (Value.slice A3 (S.due.length + 1) c3).ownBlock ≠ some x.2.1 := fun x hx e => by
    rcases hv3 _ e with e | e
    · exact h.sep x hx e
    · have := (h.tms x hx).lt; omega
  have hkall : Kept (fun k => k = p ∨ k = g ∨ v.ownBlock = some k) w w4 := by
    refine Kept.trans (Kept.trans (hk2.mono (fun x _ hx => by rcases hx with h | h; exact .inl h; exact .inr (.inl h))) hk3 (fun x _ hx => by rcases hx with h | h; exact .inl h; exact .inr (.inr h))) hk4' (fun x hx hx2 => ?_)
    rcases hv3 x hx2 with e | e
    · exact .inr (.inr e)
    · omega
  obtain ⟨u1, u2⟩ := upd_pair h.nod (t' := t.go (S.now + (18446744073709551615 - S.now)) (S.starts + 1)) hl
  refine ⟨rfl, _, ⟨hk4'.blk hne3 hbp3, ?_, ?_, hD4.own, ?_, u1, h.now0, h.now1, by show (0:Int) ≤ S.starts + 1; omega, by show S.starts + 1 ≤ 1000000; omega, ?_⟩, fun g' hg' => (hv3 g' hg').imp (fun h => h) (fun h => by omega), hkall⟩
  · show IMap w4 .i64 m (ptrs (updI S.all id _))
    rw [upd_ptrs hl]
    exact h.map.kept hkall (fun e => by rcases e with e | e | e; exact h.m_ne_p e; exact hgm e.symm; exact h.ne_m e)
  · intro z hz
    rcases u2 z hz with rfl | ⟨hz, hne⟩
    · have hng := hng3 _ (look_mem hl)
      refine hk4'.blk hng (hk3.blk (fun e => ?_) hbg2)
      rcases e with e | e
      · exact hgp e
      · exact hsep e
    · exact hkall.blk (fun e => by rcases e with e | e | e; exact h.g_ne_p hz e; exact hne e; exact h.sep z hz e) (h.tms z hz)
  · intro z hz
    rcases u2 z hz with rfl | ⟨hz, hne⟩
    · have := hng3 _ (look_mem hl); exact this
    · exact hng3 z hz
  · show (((fixL _ _).length : Nat) : Int) ≤ S.starts + 1
    rw [fixL_len]
    simp
    exact h.small

def capT (x : Int) : Int := if x ≤ 18446744073709551615 then x else 18446744073709551615

theorem stp_startAny (p m : Nat) (v : Value) (S : WS) (id after : Int) (w : World) (h : IsW w p m v S) {g : Nat} {t : Tm} (hl : lookI S.all id = some (g, t)) (ht : t.has = true) (ha : 0 ≤ after) (ha2 : after < 18446744073709551616) (hs : S.starts < 1000000) :
    Calls Try.prog 10 #[.pointer (some ⟨p, 0, none⟩), .int .i64 id, .int .u64 after] w fun e w' => e = .returned (.int .i64 0) ∧
      ∃ v', Stp w p m v S w' v' { now := S.now, starts := S.starts + 1, all := updI S.all id (g, t.go (capT (S.now + after)) (S.starts + 1)), due := fixL (S.due ++ [t.go (capT (S.now + after)) (S.starts + 1)]) S.due.length } := by
  by_cases hc : after ≤ 18446744073709551615 - S.now
  · rw [show capT (S.now + after) = S.now + after from if_pos (by omega)]
    exact stp_start p m v S id after w h hl ht ha hc hs
  · rw [show capT (S.now + after) = S.now + (18446744073709551615 - S.now) from by unfold capT; rw [if_neg (by omega)]; omega]
    exact (start_over p m v S id after w h hl ht (by omega) ha2 hs).mono fun e w' ⟨h1, v', h2, h3, h4⟩ => ⟨h1, v', h2, h4.mono (fun k _ e => by
      rcases e with e | e | e
      · exact .inl e
      · exact .inr (.inr (.inr ⟨_, look_mem hl, e⟩))
      · exact .inr (.inr (.inl e))), fun k hk => fp_v (S := S) h3 (upd_ids hl) hk⟩

end Go.Proofs.Ytaehmaocibimeaa

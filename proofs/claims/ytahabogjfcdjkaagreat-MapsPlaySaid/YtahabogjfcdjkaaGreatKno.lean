import Derived.Test.YtahabogjfcdjkaaGreatMa
set_option linter.unusedSimpArgs false
set_option linter.unusedVariables false
namespace Go.Proofs.YtahabogjfcdjkaaGreat
open Go.RowKit

theorem byNew2 (w : World) (o : Obj) (l : List UInt8) (c : Nat) (hl : l.length ≤ c) : By ((w.alloc o).alloc (.cells (bcells l).toArray 5)) (.slice (some ⟨w.heap.size + 1, 0, none⟩) l.length c) l := by
  have := By.ofNew (w.alloc o) l c hl
  rw [show (w.alloc o).heap.size = w.heap.size + 1 by simp] at this
  exact this

set_option maxHeartbeats 4000000 in
set_option maxRecDepth 100000 in
theorem known_any (w : World) : Calls Tryz.prog 4 #[] w fun e w' => e = .returned (.bool true) ∧ Kept (fun _ => False) w w' := by
  go_enter Tryz.func4, Tryz.ntmps4
  go_wp2_with fail
  refine (memNew_any w).mono ?_
  rintro e w1 ⟨rfl, hm1, hbl1, hk1, hz1⟩
  go_wp2_with fail
  refine (new_hash ⟨2, 1, 1, 1, false, 0⟩ w.heap.size (.slice none 0 0) [] w1 hm1 rfl (by decide)).mono ?_
  rintro e w2 ⟨q, m, rfl, hM2, hq, hm, hk2⟩
  have hK2 := hk1.trans hk2 (fun _ _ h => h)
  go_wp2_with fail
  have hkA : Kept (fun _ => False) w2 ((w2.alloc (.cells #[.int .u8 1] 5)).alloc (.cells #[.int .u8 5] 5)) := ((Kept.refl _ w2).alloc _).alloc _
  refine (update_new ⟨q, w.heap.size, m, .slice none 0 0, .slice none 0 0⟩ ⟨⟨2, 1, 1, 1, false, 0⟩, [], []⟩ [] _ _ [1] [5] 0 _ (hM2.quiet hkA) ((By.ofNew w2 [1] 1 (by decide)).alloc _) ?_ (byNew2 w2 _ [5] 1 (by decide)) rfl rfl rfl (by decide) (by decide) (by decide) (by decide) (by decide) (by decide)).mono ?_
  · intro g hg hgb
    have e : g = w2.heap.size := (Option.some.inj hg).symm
    have hlt := hM2.mem.lt hgb
    omega
  rintro e w3 ⟨rfl, v', g, cv, hM3, hF3, hk3⟩
  have hK3 : Kept (fun _ => False) w w3 := (hK2.trans hkA (fun _ _ h => h)).trans hk3 (fun k hk h => by
    have hs1 := hk1.size
    have hz := hz1
    rcases h with h | h
    · have h : k = m := h
      omega
    · have h : k ∈ blM w.heap.size (.slice none 0 0) [] := h
      rw [hbl1] at h
      have := List.mem_singleton.1 h
      omega)
  go_wp2_with fail
  have hkB : Kept (fun _ => False) w3 (w3.alloc (.cells #[.int .u8 1] 5)) := (Kept.refl _ w3).alloc _
  refine (value_has _ _ _ _ [1] _ (hM3.quiet hkB) (By.ofNew w3 [1] 1 (by decide)) rfl (i := 0) rfl rfl).mono ?_
  rintro e w4 ⟨ov, rfl, hov, _, hk4⟩
  have hM4 := (hM3.quiet hkB).quiet hk4
  have hK4 := (hK3.trans hkB (fun _ _ h => h)).trans hk4 (fun _ _ h => h)
  have hcv : (convert 39 9 ov).run Tryz.prog w4 = .ok (.string ⟨#[5]⟩) w4 := hov.by_.conv Tryz.underlying39 Tryz.underlying5 Tryz.underlying9
  go_wp2_with fail
  have hkC : Kept (fun _ => False) w4 ((w4.alloc (.cells #[.int .u8 2] 5)).alloc (.cells #[.int .u8 5] 5)) := ((Kept.refl _ w4).alloc _).alloc _
  refine (update_refused _ _ _ _ _ [2] [5] 0 _ (hM4.quiet hkC) ((By.ofNew w4 [2] 1 (by decide)).alloc _) (byNew2 w4 _ [5] 1 (by decide)) rfl rfl (by decide)).mono ?_
  rintro e w5 ⟨he, n, rfl⟩
  have hK5 := (hK4.trans hkC (fun _ _ h => h)).drewN n
  have e93 : e = .returned (.int .i64 93) := he.trans (congrArg (fun z => Ending.returned (.int .i64 z)) (by decide))
  subst e93
  clear he
  go_wp2_with fail
  go_ret
  exact ⟨rfl, hK5⟩

end Go.Proofs.YtahabogjfcdjkaaGreat

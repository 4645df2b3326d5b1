import Derived.Test.YtaehmaocibimeaaW5
import Derived.Test.YtaehmaocibimeaaP2
set_option linter.unusedSimpArgs false
set_option linter.unusedVariables false
namespace Go.Proofs.Ytaehmaocibimeaa
open Go.RowKit

/-- the wheel of 'known' behind its start -/
def kS (g : Nat) (n : Int) (s : Int) (due : List Tm) : WS := { now := n, starts := 1, all := [((1 : Int), (g, (⟨1, 2, 3, true, 5, s⟩ : Tm)))], due := due }

theorem fix_one (t : Tm) : fixL [t] 0 = [t] := by
  rw [fixL_b (by rw [downL_end (by simp)]; simp), downL_end (by simp), upL_zero]
theorem popX_one (t : Tm) : popX [t] 0 = [t] := by
  unfold popX
  rw [downL_end (by simp)]
  simp [swp]

theorem k4 {g : Nat} {o : List Fd} {S' : WS} (h : Ticks 4 (kS g 4 1 [⟨1, 2, 3, true, 5, 1⟩]) o S') : o = [] ∧ S' = kS g 4 1 [⟨1, 2, 3, true, 5, 1⟩] := by
  have h2 : Ticks 4 (kS g 4 1 [⟨1, 2, 3, true, 5, 1⟩]) [] (kS g 4 1 [⟨1, 2, 3, true, 5, 1⟩]) := .stop1 (d := ⟨1, 2, 3, true, 5, 1⟩) (r := []) rfl (by decide)
  exact h.det h2
theorem k5 {g : Nat} {o : List Fd} {S' : WS} (h : Ticks 5 (kS g 5 1 [⟨1, 2, 3, true, 5, 1⟩]) o S') : o = [⟨1, 2, 3, 5⟩] := by
  have h2 : Ticks 5 (kS g 5 1 [⟨1, 2, 3, true, 5, 1⟩]) [⟨1, 2, 3, 5⟩] (kS g 5 0 []) := by
    refine .fire (n := 0) (x := ⟨1, 2, 3, true, 5, 1⟩) (d := ⟨1, 2, 3, true, 5, 1⟩) (r := []) (g := g) (t := ⟨1, 2, 3, true, 5, 1⟩) rfl (by decide) rfl ?_ rfl rfl (by decide) ?_
    · show (popX [_] 0)[0]? = _
      rw [popX_one]; rfl
    · exact .stop0 rfl
  exact (h.det h2).1

set_option maxHeartbeats 2000000 in
theorem known_any (w : World) : Calls Try.prog 6 #[] w fun e w' => e = .returned (.bool true) ∧ Kept (fun _ => False) w w' := by
  go_enter Try.func6, Try.ntmps6
  go_wp2_with fail
  refine (new_any w).mono ?_
  rintro e w1 ⟨rfl, hW1, hk1, hz1⟩
  generalize hp : w.heap.size + 1 = p at *
  generalize hm : w.heap.size = m at *
  have HP := Lib.hid hp
  have HM := Lib.hid hm
  clear hp hm
  go_wp2_with fail
  refine (init_ok p m _ _ 1 w1 hW1 rfl).mono ?_
  rintro e w2 ⟨rfl, hW2, hk2, hz2⟩
  go_wp2_with fail
  refine (init_has p m _ _ 1 w2 hW2 rfl).mono ?_
  rintro e w3 ⟨rfl, rfl⟩
  go_wp2_with fail
  refine (start_none p m _ _ 1 5 w2 hW2 rfl rfl).mono ?_
  rintro e w3 ⟨rfl, rfl⟩
  go_wp2_with fail
  refine (cb_ok p m _ _ 1 2 3 w2 hW2 rfl).mono ?_
  rintro e w3 ⟨rfl, hW3, hk3⟩
  go_wp2_with fail
  refine (start_ok p m _ _ 1 5 w3 hW3 rfl rfl (by decide) (by show (5 : Int) ≤ 18446744073709551615 - 0; decide) (by show (0 : Int) < 1000000; decide)).mono ?_
  rintro e w4 ⟨rfl, v4, hW4, hv4, hk4⟩
  have hW4' : IsW w4 p m v4 (kS w1.heap.size 0 1 [⟨1, 2, 3, true, 5, 1⟩]) := by
    have e : fixL ([] ++ [(Tm.go ⟨1, 2, 3, true, 0, 0⟩ (0 + 5) (0 + 1))]) 0 = [⟨1, 2, 3, true, 5, 1⟩] := fix_one _
    have hx := hW4
    exact e ▸ hx
  clear hW3 hW2 hW1 hW4
  go_wp2_with fail
  refine (tick_ok p m v4 _ 4 w4 hW4' (by show (0 : Int) ≤ 4; decide) (by decide)).mono ?_
  rintro e w5 ⟨ov5, outs5, v5, S5, rfl, hO5, hOb5, hW5, hv5, ha5, hT5, hk5⟩
  obtain ⟨rfl, rfl⟩ := k4 hT5
  obtain ⟨A5, c5, rfl⟩ := hO5.any
  simp only [List.map_nil, List.length_nil] at hO5 hOb5 ⊢
  go_wp2_with fail
  refine (tick_ok p m v5 _ 5 w5 hW5 (by show (4 : Int) ≤ 5; decide) (by decide)).mono ?_
  rintro e w6 ⟨ov6, outs6, v6, S6, rfl, hO6, hOb6, hW6, hv6, ha6, hT6, hk6⟩
  obtain rfl := k5 hT6
  obtain ⟨g6, c6, rfl, _, _⟩ := hO6.some_ (by simp)
  obtain ⟨x0, x1, x2, x3⟩ := Fd.cellsAt (i := 0) hO6 (by simp)
  simp only [List.map_cons, List.map_nil, List.length_cons, List.length_nil, List.getElem_cons_zero, Nat.zero_mul, Nat.zero_add] at hO6 hOb6 x0 x1 x2 x3 ⊢
  go_wp2
  go_ret
  refine ⟨rfl, ?_⟩
  -- all blocks of the wheel are new
  have hsz : w.heap.size ≤ w1.heap.size := hk1.size
  have hm0 : w.heap.size = m := HM.out
  have hp0 : m + 1 = p := HP.out
  have n2 := hk2.size
  have n3 := hk3.size
  have n4 := hk4.size
  have n5 := hk5.size
  have K4 : Kept (fun _ => False) w w4 := by
    refine Kept.trans (Kept.trans (Kept.trans hk1 hk2 (fun x hx h => ?_)) hk3 (fun x hx h => ?_)) hk4 (fun x hx h => ?_)
    · omega
    · omega
    · rcases h with h | h | h
      · omega
      · omega
      · simp [Value.ownBlock] at h
  have fpn : ∀ (v' : Value) (S' : WS), (∀ g, v'.ownBlock = some g → w.heap.size ≤ g) → S'.all.map (fun x => (x.1, x.2.1)) = [((1 : Int), w1.heap.size)] → ∀ k, k < w.heap.size → fpW p m v' S' k → False := by
    intro v' S' hv' ha' k hk h
    rcases h with h | h | h | ⟨x, hx, h⟩
    · omega
    · omega
    · have := hv' k h; omega
    · have : (x.1, x.2.1) ∈ S'.all.map fun x => (x.1, x.2.1) := List.mem_map.2 ⟨x, hx, rfl⟩
      rw [ha'] at this
      simp at this
      omega
  have hv4' : ∀ g, v4.ownBlock = some g → w.heap.size ≤ g := fun g hg => by
    rcases hv4 g hg with h | h
    · simp [Value.ownBlock] at h
    · omega
  refine Kept.trans (Kept.trans K4 hk5 (fpn _ _ hv4' rfl)) hk6 (fpn _ _ (fun g hg => hv4' g (by rw [← hv5]; exact hg)) ha5)

end Go.Proofs.Ytaehmaocibimeaa

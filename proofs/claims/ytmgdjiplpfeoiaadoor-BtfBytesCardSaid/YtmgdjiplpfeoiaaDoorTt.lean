import Derived.Test.YtmgdjiplpfeoiaaDoorTp
import Derived.Test.YtmgdjiplpfeoiaaDoorTh
set_option linter.unusedSimpArgs false
set_option linter.unusedVariables false
namespace Go.Proofs.YtmgdjiplpfeoiaaDoor
open Go.RowKit

theorem field_pair1 : fieldR pairL 2 4 4 = ([46, 98], 0) := by
  unfold fieldR
  rw [size_pair]
  decide
theorem field_pair2 : fieldR pairL 2 2 4 = ([], 41) := by
  unfold fieldR
  rw [size_pair]
  decide

set_option maxHeartbeats 2000000 in
set_option maxRecDepth 100000 in
theorem known_any (w : World) : Calls Tryd.prog 10 #[] w fun e w' => e = .returned (.bool true) ∧ Kept (fun _ => False) w w' := by
  have hna : ∀ t ∈ pairL, t.kind ≠ 3 := by decide
  have hs := size_pair
  have H1 := Lib.hid field_pair1
  have H2 := Lib.hid field_pair2
  go_enter Tryd.func10, Tryd.ntmps10
  go_wp2_with fail
  refine (pair_any w).mono ?_
  rintro e w1 ⟨g1, rfl, hT1, hk1⟩
  go_wp2_with fail
  refine (sizeR_any pairL _ 2 2 w1 hT1 raw_pair).mono ?_
  rw [hs]
  rintro e w2 ⟨rfl, hk2⟩
  go_wp2_with fail
  refine (pair_any w2).mono ?_
  rintro e w3 ⟨g3, rfl, hT3, hk3⟩
  go_wp2_with fail
  refine (field_noarr pairL _ 2 2 4 4 w3 hT3 raw_pair hna (by decide) (by rw [hs]) (by decide) (by rw [hs]; decide) (by rw [hs]; decide)).mono ?_
  rw [H1.out]
  rintro e w4 ⟨rfl, hk4⟩
  go_wp2_with fail
  refine (pair_any w4).mono ?_
  rintro e w5 ⟨g5, rfl, hT5, hk5⟩
  go_wp2_with fail
  refine (field_noarr pairL _ 2 2 2 4 w5 hT5 raw_pair hna (by decide) (by rw [hs]) (by decide) (by rw [hs]; decide) (by rw [hs]; decide)).mono ?_
  rw [H2.out]
  rintro e w6 ⟨rfl, hk6⟩
  go_wp2_with fail
  go_ret
  exact ⟨rfl, ((((hk1.trans hk2 (fun _ _ h => h)).trans hk3 (fun _ _ h => h)).trans hk4 (fun _ _ h => h)).trans hk5 (fun _ _ h => h)).trans hk6 (fun _ _ h => h)⟩

end Go.Proofs.YtmgdjiplpfeoiaaDoor

import Derived.Test.YtmgdjiplpfeoiaaDoorTk
import Derived.Test.YtmgdjiplpfeoiaaDoorMh
set_option linter.unusedSimpArgs false
set_option linter.unusedVariables false
namespace Go.Proofs.YtmgdjiplpfeoiaaDoor
open Go.RowKit

/-! ### few: one bool or the other -/
def SomeB (e : Ending) : Prop := ∃ b, e = .returned (.bool b)
set_option maxHeartbeats 2000000 in
theorem few_any (l : List Ty) (a : Option Addr) (c : Nat) (w : World) (h : Tys w (.slice a l.length c) l) (hr : Raw l) :
    Calls Tryd.prog 11 #[.slice a l.length c] w fun e w' => SomeB e ∧ Kept (fun _ => False) w w' := by
  have hmx := hr.len
  unfold maxLen at hmx
  go_enter Tryd.func11, Tryd.ntmps11
  go_wp2_with fail
  go_loopw [4, 3] (fun iv nv wr => ∃ (i : Nat) (z : Int), iv = .int .i64 i ∧ nv = .int .i64 z ∧ i ≤ l.length ∧ Kept (fun _ => False) w wr) (fun iv _ _ => l.length - (intOf iv).toNat)
  case atStart => exact ⟨0, 0, rfl, rfl, Nat.zero_le _, Kept.refl _ _⟩
  case round =>
    obtain ⟨i, z, rfl, rfl, hi, hK⟩ := hrel
    by_cases hlt : i < l.length
    case neg =>
      obtain rfl : i = l.length := by omega
      go_wp2_with fail
      go_ret
      exact ⟨⟨_, rfl⟩, hK⟩
    case pos =>
      by_cases hz : 400 < z
      · go_wp2_with fail
        go_ret
        exact ⟨⟨_, rfl⟩, hK⟩
      · have ht : l[i]? = some l[i] := List.getElem?_eq_getElem hlt
        obtain ⟨g, o, mv, rfl, hgl, hm, c0, c1, c2, c3, c4, c5, c6⟩ := (h.kept hK).at_ ht
        obtain ⟨ma, mc, rfl⟩ := hm.any
        have hnm := hr.name _ (List.mem_of_getElem? ht)
        unfold maxLen at hnm
        have hsz := nV_size l[i].name
        clear ht h hm c0 c2 c3 c4 c5
        go_wp2_with fail
        refine wp_region_mix0 [.w, .w, .w, .w, .w, .w, .l, .w, .w, .w, .w, .w, .w, .l, .w, .w, .w, .w] (by kernel_rfl) (by kernel_rfl) ?_
        repeat (first
          | (refine mix_w1 ?_; go_big_quiet_step (fail); refine wpQuiet_nil ?_)
          | (refine mix_l1 rfl ?_; go_big_quiet_step (fail); refine wpQuiet_nil ?_))
        refine mix_done ?_
        go_wp2_with fail
        go_roundw
        case rel => exact ⟨i + 1, _, by go_num, rfl, by omega, hK.drew⟩
        case measure => simp [intOf]; omega

end Go.Proofs.YtmgdjiplpfeoiaaDoor

import Derived.Test.YtahabogjfcdjkaaGreatDn
set_option linter.unusedSimpArgs false
set_option linter.unusedVariables false
namespace Go.Proofs.YtahabogjfcdjkaaGreat
open Go.RowKit

/-! ### the program's Live -/
set_option maxHeartbeats 1000000 in
theorem mlive_out (p : Nat) (v : Value) (L : List Rg) (id : Int) (w : World) (h : IsMem w p v L) (hi : id < 1 ∨ (L.length : Int) < id) :
    Calls Tryz.prog 14 #[.pointer (some ⟨p, 0, none⟩), .int .i64 id] w fun e w' => e = .returned (.bool false) ∧ w = w' := by
  have hP := Lib.hid (at_out p v L id w h hi)
  clear hi
  go_enter Tryz.func14, Tryz.ntmps14
  go_wp2_with fail
  refine hP.out.mono ?_
  rintro e w1 ⟨rfl, rfl⟩
  go_wp2_with fail
  go_ret
  exact ⟨rfl, rfl⟩
theorem alive_any (g : Nat) (d : Bool) (w : World) (h : w.cell? ⟨g, 0, none⟩ = some (.bool d)) :
    Calls Tryz.prog 128 #[.pointer (some ⟨g, 0, none⟩)] w fun e w' => e = .returned (.bool (!d)) ∧ w = w' := by
  go_enter Tryz.func128, Tryz.ntmps128
  go_wp2_with fail
  go_ret
  exact ⟨rfl, rfl⟩
set_option maxHeartbeats 1000000 in
set_option maxRecDepth 100000 in
theorem mlive_in (p : Nat) (v : Value) (L : List Rg) (i : Nat) (w : World) (h : IsMem w p v L) {r : Rg} (hi : L[i]? = some r) :
    Calls Tryz.prog 14 #[.pointer (some ⟨p, 0, none⟩), .int .i64 ((i : Int) + 1)] w fun e w' => e = .returned (.bool (!r.dead)) ∧ w = w' := by
  have hP := Lib.hid (at_in p v L i w h hi)
  have hb := (h.rg r (List.mem_of_getElem? hi)).1.cell
  simp only [Rg.cells] at hb
  have hc : w.cell? ⟨r.g, 0, none⟩ = some (.bool r.dead) := by rw [hb 0]; rfl
  have hal := Lib.hid (alive_any r.g r.dead w hc)
  have hm : ∀ w : World, (method 293 93 (.pointer (some ⟨r.g, 0, none⟩)) "barbican/region.alive").run Tryz.prog w = .ok (128, .pointer (some ⟨r.g, 0, none⟩)) w := fun w => by kernel_rfl
  have hm2 : ∀ w : World, (callFunc 128 #[.pointer (some ⟨r.g, 0, none⟩)]).run Tryz.prog w = .ok (.enter 128 #[.pointer (some ⟨r.g, 0, none⟩)]) w := fun w => by kernel_rfl
  go_enter Tryz.func14, Tryz.ntmps14
  go_wp2_with fail
  refine hP.out.mono ?_
  rintro e w1 ⟨rfl, rfl⟩
  go_wp2_with fail
  refine hal.out.mono ?_
  rintro e w1 ⟨rfl, rfl⟩
  go_wp2_with fail
  go_ret
  exact ⟨rfl, rfl⟩

end Go.Proofs.YtahabogjfcdjkaaGreat

import Derived.Test.YtopdoanfpjaehaaNr
import Derived.Test.YtopdoanfpjaehaaKz
set_option linter.unusedSimpArgs false
set_option linter.unusedVariables false
namespace Go.Proofs.Ytopdoanfpjaehaa
open Go.RowKit

/-! ### what is known -/
def K3 : List In := [⟨183, 1, 0, 0, 1⟩, ⟨183, 0, 0, 0, 2⟩, ⟨149, 0, 0, 0, 0⟩]
theorem K3_ok : InsOk K3 := ⟨by decide, fun x hx => by
  simp only [K3, List.mem_cons, List.not_mem_nil, or_false] at hx
  rcases hx with rfl | rfl | rfl <;> exact ⟨by decide, by decide, by decide, by decide, by decide⟩⟩
theorem K3_check : checkI K3 = 0 := by decide +kernel
theorem K3_rch : rchL K3 = [true, true, true] := by
  have h0 : Rch K3 0 := .zero
  have h1 : Rch K3 1 := .step h0 (by decide +kernel)
  have h2 : Rch K3 2 := .step h1 (by decide +kernel)
  refine (rchL_eq rfl fun k hk => ?_).symm
  have : k < 3 := hk
  rcases (by omega : k = 0 ∨ k = 1 ∨ k = 2) with rfl | rfl | rfl
  · exact ⟨fun _ => h0, fun _ => rfl⟩
  · exact ⟨fun _ => h1, fun _ => rfl⟩
  · exact ⟨fun _ => h2, fun _ => rfl⟩
theorem K3_live {L : List Nat} (h : LiveIs K3 L) : L = [0, 0, 1] := by
  have f2 := h.fix 2 ⟨149, 0, 0, 0, 0⟩ rfl (by decide +kernel)
  have f1 := h.fix 1 ⟨183, 0, 0, 0, 2⟩ rfl (by decide +kernel)
  have f0 := h.fix 0 ⟨183, 1, 0, 0, 1⟩ rfl (by decide +kernel)
  have e2 : newN L 2 ⟨149, 0, 0, 0, 0⟩ = 1 := by
    show readsN (⟨149, 0, 0, 0, 0⟩ : In) ||| lessN 0 (writesN (⟨149, 0, 0, 0, 0⟩ : In)) = 1
    decide +kernel
  rw [e2] at f2
  have e1 : newN L 1 ⟨183, 0, 0, 0, 2⟩ = 0 := by
    have : behN L (nextC 1 ⟨183, 0, 0, 0, 2⟩) = 1 := by
      show L.getD 2 0 ||| 0 = 1
      rw [List.getD_eq_getElem?_getD, f2]
      rfl
    unfold newN
    rw [this]
    decide +kernel
  rw [e1] at f1
  have e0 : newN L 0 ⟨183, 1, 0, 0, 1⟩ = 0 := by
    have : behN L (nextC 0 ⟨183, 1, 0, 0, 1⟩) = 0 := by
      show L.getD 1 0 ||| 0 = 0
      rw [List.getD_eq_getElem?_getD, f1]
      rfl
    unfold newN
    rw [this]
    decide +kernel
  rw [e0] at f0
  have hl : L.length = 3 := h.len
  match L, hl, f0, f1, f2 with
  | [a, b, c], _, f0, f1, f2 =>
    simp at f0 f1 f2
    rw [f0, f1, f2]
theorem K3_dead : deadU K3 [0, 0, 1] 3 = [0] := by
  have d0 : deadC K3 [0, 0, 1] 0 = true := by unfold deadC; rw [K3_rch]; decide +kernel
  have d1 : deadC K3 [0, 0, 1] 1 = false := by unfold deadC; rw [K3_rch]; decide +kernel
  have d2 : deadC K3 [0, 0, 1] 2 = false := by unfold deadC; rw [K3_rch]; decide +kernel
  rw [deadU_same d2, deadU_same d1, deadU_more d0]
  rfl
set_option maxHeartbeats 8000000 in
set_option maxRecDepth 100000 in
theorem known_any (w : World) : Calls Try.prog 6 #[] w fun e w' => e = .returned (.bool true) ∧ Kept (fun _ => False) w w' := by
  have hI := (inS_new w K3 (by decide)).ins
  have HD := Lib.hid (lDead_any K3 (some ⟨w.heap.size, 0, none⟩) 3 _ hI K3_ok)
  have HL := Lib.hid (fun W hW => lLive_any K3 (some ⟨w.heap.size, 0, none⟩) 3 W hW K3_ok)
  rw [K3_check] at HD HL
  have HI := Lib.hid hI
  clear hI
  go_enter Try.func6, Try.ntmps6
  go_wp2_with fail
  refine HD.out.mono ?_
  rintro e w1 ⟨dv, rfl, hdl, -, hk1, ho1⟩
  obtain ⟨L, hL, hdv⟩ := hdl (by first | trivial | rfl)
  rw [K3_live hL, show K3.length = 3 from rfl, K3_dead] at hdv
  have hK1 : Kept (fun _ => False) w w1 := ((Kept.refl _ w).alloc _).trans hk1 (fun _ _ h => h)
  obtain ⟨dg, dc, rfl, hdc, hdg⟩ := Sl.some_ hdv (by decide)
  have d0 := Ints.cell hdv (i := 0) (x := 0) rfl
  have HIW := Lib.hid (HI.out.kept hk1)
  clear hdl hL hdc ho1
  go_wp2_with fail
  refine (HL.out _ HIW.out).mono ?_
  rintro e w2 ⟨lv, rfl, hll, -, hk2, ho2⟩
  obtain ⟨M, hM, hlv⟩ := hll (by first | trivial | rfl)
  rw [K3_live hM] at hlv
  have hK2 := hK1.trans hk2 (fun _ _ h => h)
  obtain ⟨lg, lc, rfl, hlc, hlg⟩ := Sl.some_ hlv (by decide)
  have l0 := U16s.cell hlv (i := 0) (x := 0) rfl
  have l2 := U16s.cell hlv (i := 2) (x := 1) rfl
  have d02 : w2.cell? ⟨dg, 0, none⟩ = some (.int .i64 0) := by rw [hk2.cell hdg (fun h => h)]; exact d0
  clear d0 hll hM hlc ho2 HD HL
  go_wp2_with fail
  go_ret
  exact ⟨rfl, hK2⟩

end Go.Proofs.Ytopdoanfpjaehaa

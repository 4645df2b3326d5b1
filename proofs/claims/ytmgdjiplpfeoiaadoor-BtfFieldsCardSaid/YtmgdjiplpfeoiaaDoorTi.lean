import Derived.Test.YtmgdjiplpfeoiaaDoorTh
set_option linter.unusedSimpArgs false
set_option linter.unusedVariables false
namespace Go.Proofs.YtmgdjiplpfeoiaaDoor
open Go.RowKit

/-! ### Field where there is no such place -/
set_option maxHeartbeats 4000000 in
set_option maxRecDepth 100000 in
theorem field_err (l : List Ty) (a : Option Addr) (c : Nat) (id off n : Int) (w : World) (h : Tys w (.slice a l.length c) l) (hr : Raw l) (h0 : (sizeR l id).2 ≠ 0) :
    Calls Tryd.prog 12 #[.slice a l.length c, .int .i64 id, .int .i64 off, .int .i64 n] w fun e w' => e = .returned (.tuple #[nV [], .int .i64 (sizeR l id).2]) ∧ Kept (fun _ => False) w w' := by
  have hSZ := Lib.hid (sizeR_any l a c id w h hr)
  generalize (sizeR l id).2 = ee at *
  generalize (sizeR l id).1 = ss at *
  have he : (ee == 0) = false := by simpa using h0
  have he2 : (ee != 0) = true := by simpa using h0
  clear h0
  go_enter Tryd.func12, Tryd.ntmps12
  go_wp2_with fail
  refine hSZ.out.mono ?_
  rintro e w1 ⟨rfl, hk1⟩
  go_wp2_with fail
  go_ret2
  exact ⟨rfl, hk1⟩
set_option maxHeartbeats 8000000 in
set_option maxRecDepth 100000 in
theorem field_bad (l : List Ty) (a : Option Addr) (c : Nat) (id off n : Int) (w : World) (h : Tys w (.slice a l.length c) l) (hr : Raw l) (h0 : (sizeR l id).2 = 0)
    (ho : -9223372036854775808 ≤ off ∧ off ≤ 9223372036854775807)
    (hb : off < 0 ∨ ¬ (n = 1 ∨ n = 2 ∨ n = 4 ∨ n = 8) ∨ (sizeR l id).1 < off ∨ (sizeR l id).1 - off < n) :
    Calls Tryd.prog 12 #[.slice a l.length c, .int .i64 id, .int .i64 off, .int .i64 n] w fun e w' => e = .returned (.tuple #[nV [], .int .i64 43]) ∧ Kept (fun _ => False) w w' := by
  obtain ⟨_, _, _, _, _, hs0, hs1⟩ := sizeR_ok hr h0
  have hSZ := Lib.hid (sizeR_any l a c id w h hr)
  rw [h0] at hSZ
  generalize (sizeR l id).1 = ss at *
  clear h0
  by_cases a1 : off < 0
  · clear hb
    have a2 : decide (off < 0) = true := decide_eq_true a1
    go_enter Tryd.func12, Tryd.ntmps12
    go_wp2_with fail
    refine hSZ.out.mono ?_
    rintro e w1 ⟨rfl, hk1⟩
    go_wp2_with fail
    go_ret2
    exact ⟨rfl, hk1⟩
  by_cases a2 : n = 1 ∨ n = 2 ∨ n = 4 ∨ n = 8
  · by_cases a3 : ss < off
    · clear hb
      rcases a2 with rfl | rfl | rfl | rfl
      all_goals
        go_enter Tryd.func12, Tryd.ntmps12
        go_wp2_with fail
        refine hSZ.out.mono ?_
        rintro e w1 ⟨rfl, hk1⟩
        go_wp2_with fail
        go_ret2
        exact ⟨rfl, hk1⟩
    · have a4 : ss - off < n := by
        rcases hb with h | h | h | h
        · omega
        · exact absurd a2 h
        · omega
        · exact h
      clear hb
      rcases a2 with rfl | rfl | rfl | rfl
      all_goals
        go_enter Tryd.func12, Tryd.ntmps12
        go_wp2_with fail
        refine hSZ.out.mono ?_
        rintro e w1 ⟨rfl, hk1⟩
        go_wp2_with fail
        go_ret2
        exact ⟨rfl, hk1⟩
  · have b1 : (n == 1) = false := by simp; omega
    have b2 : (n == 2) = false := by simp; omega
    have b4 : (n == 4) = false := by simp; omega
    have b8 : (n == 8) = false := by simp; omega
    have c1 : (n != 1) = true := by simp; omega
    have c2 : (n != 2) = true := by simp; omega
    have c4 : (n != 4) = true := by simp; omega
    have c8 : (n != 8) = true := by simp; omega
    clear hb a2
    go_enter Tryd.func12, Tryd.ntmps12
    go_wp2_with fail
    refine hSZ.out.mono ?_
    rintro e w1 ⟨rfl, hk1⟩
    go_wp2_with fail
    go_ret2
    exact ⟨rfl, hk1⟩

end Go.Proofs.YtmgdjiplpfeoiaaDoor

import Derived.Test.YtmgdjiplpfeoiaaDoorUi
import Derived.Test.YtmgdjiplpfeoiaaDoorFw
import Derived.Test.YtmgdjiplpfeoiaaDoorTt
set_option linter.unusedSimpArgs false
set_option linter.unusedVariables false
namespace Go.Proofs.YtmgdjiplpfeoiaaDoor
open Go.RowKit

/-! ### the document's Field where there is no such type -/
set_option maxHeartbeats 4000000 in
set_option maxRecDepth 100000 in
theorem reffield_err (l : List Ty) (a : Option Addr) (c : Nat) (id off n : Int) (w : World) (h : Tys w (.slice a l.length c) l) (hr : Raw l) (h0 : (sizeR l id).2 ≠ 0) :
    Calls Tryd.prog 13 #[.slice a l.length c, .int .i64 id, .int .i64 off, .int .i64 n] w fun e w' => e = .returned (.tuple #[nV [], .int .i64 (sizeR l id).2]) ∧ Kept (fun _ => False) w w' := by
  have hSZ := Lib.hid (refsize_any l a c id w h hr)
  generalize (sizeR l id).2 = ee at *
  generalize (sizeR l id).1 = ss at *
  have he : (ee == 0) = false := by simpa using h0
  have he2 : (ee != 0) = true := by simpa using h0
  clear h0
  go_enter Tryd.func13, Tryd.ntmps13
  go_wp2_with fail
  refine hSZ.out.mono ?_
  rintro e w1 ⟨rfl, hk1⟩
  go_wp2_with fail
  go_ret2
  exact ⟨rfl, hk1⟩

theorem reffield_any (l : List Ty) (a : Option Addr) (c : Nat) (id off n : Int) (w : World) (h : Tys w (.slice a l.length c) l) (hr : Raw l) (ho : -9223372036854775808 ≤ off ∧ off ≤ 9223372036854775807) (hnn : -9223372036854775808 ≤ n ∧ n ≤ 9223372036854775807) :
    Calls Tryd.prog 13 #[.slice a l.length c, .int .i64 id, .int .i64 off, .int .i64 n] w fun e w' => e = .returned (.tuple #[nV (fieldA l id off n).1, .int .i64 (fieldA l id off n).2]) ∧ Kept (fun _ => False) w w' := by
  by_cases h0 : (sizeR l id).2 = 0
  · exact reffield_in l a c id off n w h hr ho hnn h0
  · have e : fieldA l id off n = ([], (sizeR l id).2) := by unfold fieldA; rw [if_pos h0]
    rw [e]
    exact reffield_err l a c id off n w h hr h0

set_option maxHeartbeats 4000000 in
set_option maxRecDepth 100000 in
theorem walk_fields (a : Option Addr) (c : Nat) (l : List Ty) (id off n : Int) (w : World) (h : Tys w (.slice a l.length c) l) (hr : Raw l) (htb : PowTab w) (ho : -9223372036854775808 ≤ off ∧ off ≤ 9223372036854775807) (hnn : -9223372036854775808 ≤ n ∧ n ≤ 9223372036854775807) :
    Calls Tryd.prog 3 #[.slice a l.length c, .int .i64 id, .int .i64 off, .int .i64 n] w fun e w' => e = .returned (.bool true) ∧ Kept (fun _ => False) w w' := by
  have hFW := Lib.hid (fun W hW => few_any l a c W hW hr)
  have hF1 := Lib.hid (fun W hW hP => field_any l a c id off n W hW hr hP ho)
  have hF2 := Lib.hid (fun W hW => reffield_any l a c id off n W hW hr ho hnn)
  generalize (fieldA l id off n).1 = s at *
  generalize (fieldA l id off n).2 = t at *
  clear hr ho hnn
  go_enter Tryd.func3, Tryd.ntmps3
  go_wp2_with fail
  refine (known_any w).mono ?_
  rintro e w1 ⟨rfl, hk1⟩
  go_wp2_with fail
  refine (hFW.out _ (h.kept hk1)).mono ?_
  rintro e w2 ⟨⟨b, rfl⟩, hk2⟩
  have hK2 := hk1.trans hk2 (fun _ _ h => h)
  clear hk1 hk2
  cases b
  · go_wp2_with fail
    go_ret
    exact ⟨rfl, hK2⟩
  go_wp2_with fail
  refine (hF1.out _ (h.kept hK2) (htb.kept hK2)).mono ?_
  rintro e w3 ⟨rfl, hk3⟩
  have hK3 := hK2.trans hk3 (fun _ _ h => h)
  go_wp2_with fail
  refine (hF2.out _ (h.kept hK3)).mono ?_
  rintro e w4 ⟨rfl, hk4⟩
  have hK4 := hK3.trans hk4 (fun _ _ h => h)
  clear hK2 hk3 hK3 hk4
  go_wp2_with fail
  go_ret
  exact ⟨rfl, hK4⟩

end Go.Proofs.YtmgdjiplpfeoiaaDoor

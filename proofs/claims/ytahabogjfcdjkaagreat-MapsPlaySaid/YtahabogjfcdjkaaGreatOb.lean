import Derived.Test.YtahabogjfcdjkaaGreatRa
set_option linter.unusedSimpArgs false
set_option linter.unusedVariables false
namespace Go.Proofs.YtahabogjfcdjkaaGreat
open Go.RowKit

/-! ### what maps may be (package object), where no type is named -/
structure Df where
  kind : Int
  key : Int
  value : Int
  entries : Int
  timer : Bool
  type : Int
def Df.cells (d : Df) : Array Value := #[.int .i64 d.kind, .int .i64 d.key, .int .i64 d.value, .int .i64 d.entries, .bool d.timer, .int .i64 d.type]
def inB (n lo hi : Int) : Bool := decide (lo ≤ n) && decide (n ≤ hi)
def valB (d : Df) : Bool := inB d.value 1 256 && (!d.timer || !decide (d.value < 16)) && inB d.entries 1 64
def bareB (d : Df) : Bool := !d.timer && (d.type == 0)

set_option maxHeartbeats 400000 in
theorem in_any (n lo hi : Int) (w : World) : Calls Tryz.prog 48 #[.int .i64 n, .int .i64 lo, .int .i64 hi] w fun e w' => e = .returned (.bool (inB n lo hi)) ∧ w = w' := by
  unfold inB
  cases h : decide (lo ≤ n)
  · go_enter Tryz.func48, Tryz.ntmps48
    go_wp2
    go_ret
    exact ⟨rfl, rfl⟩
  · go_enter Tryz.func48, Tryz.ntmps48
    go_wp2
    go_ret
    exact ⟨rfl, rfl⟩

set_option maxHeartbeats 400000 in
theorem bare_any (d : Df) (w : World) : Calls Tryz.prog 50 #[.agg d.cells] w fun e w' => e = .returned (.bool (bareB d)) ∧ Kept (fun _ => False) w w' := by
  unfold bareB Df.cells
  cases h : d.timer
  · go_enter Tryz.func50, Tryz.ntmps50
    go_wp2
    go_ret
    exact ⟨by simp, Kept.alloc (Kept.refl _ w) _⟩
  · go_enter Tryz.func50, Tryz.ntmps50
    go_wp2
    go_ret
    exact ⟨by simp, Kept.alloc (Kept.refl _ w) _⟩

set_option maxHeartbeats 1000000 in
theorem valued_any (d : Df) (ty : Value) (w : World) (h0 : d.type = 0) : Calls Tryz.prog 46 #[.agg d.cells, ty] w fun e w' => e = .returned (.bool (valB d)) ∧ Kept (fun _ => False) w w' := by
  have hv : valB d = (inB d.value 1 256 && (!d.timer || !decide (d.value < 16)) && inB d.entries 1 64) := rfl
  generalize valB d = b at *
  unfold Df.cells
  rw [h0]
  have HV := Lib.hid hv
  clear hv h0
  cases h1 : inB d.value 1 256
  · go_enter Tryz.func46, Tryz.ntmps46
    go_wp2_with (go_at_call 48; refine (in_any _ _ _ _).mono ?_; rintro e w1 ⟨rfl, rfl⟩; try rw [h1])
    go_ret
    exact ⟨by rw [HV.out, h1]; rfl, Kept.alloc (Kept.refl _ w) _⟩
  · cases h2 : d.timer
    · cases h4 : inB d.entries 1 64
      · go_enter Tryz.func46, Tryz.ntmps46
        go_wp2_with (go_at_call 48; refine (in_any _ _ _ _).mono ?_; rintro e w1 ⟨rfl, rfl⟩; first | rw [h1] | rw [h4])
        go_ret
        exact ⟨by rw [HV.out, h1, h2, h4]; rfl, Kept.alloc (Kept.refl _ w) _⟩
      · go_enter Tryz.func46, Tryz.ntmps46
        go_wp2_with (go_at_call 48; refine (in_any _ _ _ _).mono ?_; rintro e w1 ⟨rfl, rfl⟩; first | rw [h1] | rw [h4])
        go_ret
        exact ⟨by rw [HV.out, h1, h2, h4]; rfl, Kept.alloc (Kept.refl _ w) _⟩
    · cases h3 : decide (d.value < 16)
      · cases h4 : inB d.entries 1 64
        · go_enter Tryz.func46, Tryz.ntmps46
          go_wp2_with (go_at_call 48; refine (in_any _ _ _ _).mono ?_; rintro e w1 ⟨rfl, rfl⟩; first | rw [h1] | rw [h4])
          go_ret
          exact ⟨by rw [HV.out, h1, h2, h3, h4]; rfl, Kept.alloc (Kept.refl _ w) _⟩
        · go_enter Tryz.func46, Tryz.ntmps46
          go_wp2_with (go_at_call 48; refine (in_any _ _ _ _).mono ?_; rintro e w1 ⟨rfl, rfl⟩; first | rw [h1] | rw [h4])
          go_ret
          exact ⟨by rw [HV.out, h1, h2, h3, h4]; rfl, Kept.alloc (Kept.refl _ w) _⟩
      · go_enter Tryz.func46, Tryz.ntmps46
        go_wp2_with (go_at_call 48; refine (in_any _ _ _ _).mono ?_; rintro e w1 ⟨rfl, rfl⟩; try rw [h1])
        go_ret
        exact ⟨by rw [HV.out, h1, h2, h3]; rfl, Kept.alloc (Kept.refl _ w) _⟩

end Go.Proofs.YtahabogjfcdjkaaGreat

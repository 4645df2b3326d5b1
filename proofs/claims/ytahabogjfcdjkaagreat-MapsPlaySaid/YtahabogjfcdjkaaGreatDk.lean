import Derived.Test.YtahabogjfcdjkaaGreatDj
set_option linter.unusedSimpArgs false
set_option linter.unusedVariables false
namespace Go.Proofs.YtahabogjfcdjkaaGreat
open Go.RowKit

/-! ### the document's Def, where there is no type -/
set_option maxHeartbeats 8000000 in
set_option maxRecDepth 100000 in
theorem rdef_any (d : Df) (ty : Value) (w : World) (h0 : d.type = 0) (h4 : d.kind ≠ 4) : Calls Tryz.prog 21 #[.agg d.cells, ty] w fun e w' => e = .returned (.int .i64 (if defB d then 0 else 51)) ∧ Kept (fun _ => False) w w' := by
  obtain ⟨kind, key, value, entries, timer, type⟩ := d
  simp only at h0 h4
  subst h0
  unfold Df.cells
  by_cases k1 : kind = 1
  case pos =>
    subst k1
    clear h4
    by_cases h1 : (1 : Int) ≤ key
    case neg =>
      have : decide (key ≥ 1) = false := decide_eq_false (by omega)
      have : decide ((1 : Int) ≤ key) = false := decide_eq_false (by omega)
      have hD : defB (⟨1, key, value, entries, timer, 0⟩ : Df) = false := by unfold defB kindB1 kindB2 kindB3 valB bareB inB; simp <;> omega
      rw [hD]
      have HC0 : True := trivial
      clear hD
      go_enter Tryz.func21, Tryz.ntmps21
      go_wp2_with fail
      go_ret
      exact ⟨rfl, (Kept.refl _ w).alloc _⟩
    case pos =>
      have : decide (key ≥ 1) = true := decide_eq_true (by omega)
      have : decide ((1 : Int) ≤ key) = true := decide_eq_true (by omega)
      by_cases h2 : key ≤ 16
      case neg =>
        have : decide (key ≤ 16) = false := decide_eq_false (by omega)
        have hD : defB (⟨1, key, value, entries, timer, 0⟩ : Df) = false := by unfold defB kindB1 kindB2 kindB3 valB bareB inB; simp <;> omega
        rw [hD]
        have HC0 : True := trivial
        clear hD
        go_enter Tryz.func21, Tryz.ntmps21
        go_wp2_with fail
        go_ret
        exact ⟨rfl, (Kept.refl _ w).alloc _⟩
      case pos =>
        have : decide (key ≤ 16) = true := decide_eq_true (by omega)
        by_cases h3 : key = 4
        case neg =>
          have : (key == 4) = false := beq_eq_false_iff_ne.2 (by omega)
          have hD : defB (⟨1, key, value, entries, timer, 0⟩ : Df) = false := by unfold defB kindB1 kindB2 kindB3 valB bareB inB; simp <;> omega
          rw [hD]
          have HC0 : True := trivial
          clear hD
          go_enter Tryz.func21, Tryz.ntmps21
          go_wp2_with fail
          go_ret
          exact ⟨rfl, (Kept.refl _ w).alloc _⟩
        case pos =>
          have : (key == 4) = true := beq_iff_eq.2 (by omega)
          by_cases h4 : (1 : Int) ≤ value
          case neg =>
            have : decide (value ≥ 1) = false := decide_eq_false (by omega)
            have : decide ((1 : Int) ≤ value) = false := decide_eq_false (by omega)
            have hD : defB (⟨1, key, value, entries, timer, 0⟩ : Df) = false := by unfold defB kindB1 kindB2 kindB3 valB bareB inB; simp <;> omega
            rw [hD]
            have HC0 : True := trivial
            clear hD
            go_enter Tryz.func21, Tryz.ntmps21
            go_wp2_with fail
            go_ret
            exact ⟨rfl, (Kept.refl _ w).alloc _⟩
          case pos =>
            have : decide (value ≥ 1) = true := decide_eq_true (by omega)
            have : decide ((1 : Int) ≤ value) = true := decide_eq_true (by omega)
            by_cases h5 : value ≤ 256
            case neg =>
              have : decide (value ≤ 256) = false := decide_eq_false (by omega)
              have hD : defB (⟨1, key, value, entries, timer, 0⟩ : Df) = false := by unfold defB kindB1 kindB2 kindB3 valB bareB inB; simp <;> omega
              rw [hD]
              have HC0 : True := trivial
              clear hD
              go_enter Tryz.func21, Tryz.ntmps21
              go_wp2_with fail
              go_ret
              exact ⟨rfl, (Kept.refl _ w).alloc _⟩
            case pos =>
              have : decide (value ≤ 256) = true := decide_eq_true (by omega)
              cases timer
              case false =>
                by_cases h7 : (1 : Int) ≤ entries
                case neg =>
                  have : decide (entries ≥ 1) = false := decide_eq_false (by omega)
                  have : decide ((1 : Int) ≤ entries) = false := decide_eq_false (by omega)
                  have hD : defB (⟨1, key, value, entries, false, 0⟩ : Df) = false := by unfold defB kindB1 kindB2 kindB3 valB bareB inB; simp <;> omega
                  rw [hD]
                  have HC0 : True := trivial
                  clear hD
                  go_enter Tryz.func21, Tryz.ntmps21
                  go_wp2_with fail
                  go_ret
                  exact ⟨rfl, (Kept.refl _ w).alloc _⟩
                case pos =>
                  have : decide (entries ≥ 1) = true := decide_eq_true (by omega)
                  have : decide ((1 : Int) ≤ entries) = true := decide_eq_true (by omega)
                  by_cases h8 : entries ≤ 64
                  case neg =>
                    have : decide (entries ≤ 64) = false := decide_eq_false (by omega)
                    have hD : defB (⟨1, key, value, entries, false, 0⟩ : Df) = false := by unfold defB kindB1 kindB2 kindB3 valB bareB inB; simp <;> omega
                    rw [hD]
                    have HC0 : True := trivial
                    clear hD
                    go_enter Tryz.func21, Tryz.ntmps21
                    go_wp2_with fail
                    go_ret
                    exact ⟨rfl, (Kept.refl _ w).alloc _⟩
                  case pos =>
                    have : decide (entries ≤ 64) = true := decide_eq_true (by omega)
                    have hD : defB (⟨1, key, value, entries, false, 0⟩ : Df) = true := by unfold defB kindB1 kindB2 kindB3 valB bareB inB; simp <;> omega
                    rw [hD]
                    have HC0 : True := trivial
                    clear hD
                    go_enter Tryz.func21, Tryz.ntmps21
                    go_wp2_with fail
                    go_ret
                    exact ⟨rfl, (Kept.refl _ w).alloc _⟩
              case true =>
                by_cases h6 : (16 : Int) ≤ value
                case neg =>
                  have : decide (value ≥ 16) = false := decide_eq_false (by omega)
                  have : decide ((16 : Int) ≤ value) = false := decide_eq_false (by omega)
                  have hD : defB (⟨1, key, value, entries, true, 0⟩ : Df) = false := by unfold defB kindB1 kindB2 kindB3 valB bareB inB; simp <;> omega
                  rw [hD]
                  have HC0 : True := trivial
                  clear hD
                  go_enter Tryz.func21, Tryz.ntmps21
                  go_wp2_with fail
                  go_ret
                  exact ⟨rfl, (Kept.refl _ w).alloc _⟩
                case pos =>
                  have : decide (value ≥ 16) = true := decide_eq_true (by omega)
                  have : decide ((16 : Int) ≤ value) = true := decide_eq_true (by omega)
                  by_cases h9 : (1 : Int) ≤ entries
                  case neg =>
                    have : decide (entries ≥ 1) = false := decide_eq_false (by omega)
                    have : decide ((1 : Int) ≤ entries) = false := decide_eq_false (by omega)
                    have hD : defB (⟨1, key, value, entries, true, 0⟩ : Df) = false := by unfold defB kindB1 kindB2 kindB3 valB bareB inB; simp <;> omega
                    rw [hD]
                    have HC0 : True := trivial
                    clear hD
                    go_enter Tryz.func21, Tryz.ntmps21
                    go_wp2_with fail
                    go_ret
                    exact ⟨rfl, (Kept.refl _ w).alloc _⟩
                  case pos =>
                    have : decide (entries ≥ 1) = true := decide_eq_true (by omega)
                    have : decide ((1 : Int) ≤ entries) = true := decide_eq_true (by omega)
                    by_cases h10 : entries ≤ 64
                    case neg =>
                      have : decide (entries ≤ 64) = false := decide_eq_false (by omega)
                      have hD : defB (⟨1, key, value, entries, true, 0⟩ : Df) = false := by unfold defB kindB1 kindB2 kindB3 valB bareB inB; simp <;> omega
                      rw [hD]
                      have HC0 : True := trivial
                      clear hD
                      go_enter Tryz.func21, Tryz.ntmps21
                      go_wp2_with fail
                      go_ret
                      exact ⟨rfl, (Kept.refl _ w).alloc _⟩
                    case pos =>
                      have : decide (entries ≤ 64) = true := decide_eq_true (by omega)
                      have hD : defB (⟨1, key, value, entries, true, 0⟩ : Df) = true := by unfold defB kindB1 kindB2 kindB3 valB bareB inB; simp <;> omega
                      rw [hD]
                      have HC0 : True := trivial
                      clear hD
                      go_enter Tryz.func21, Tryz.ntmps21
                      go_wp2_with fail
                      go_ret
                      exact ⟨rfl, (Kept.refl _ w).alloc _⟩
  case neg =>
  by_cases k2 : kind = 2
  case pos =>
    subst k2
    clear h4 k1
    by_cases h11 : (1 : Int) ≤ key
    case neg =>
      have : decide (key ≥ 1) = false := decide_eq_false (by omega)
      have : decide ((1 : Int) ≤ key) = false := decide_eq_false (by omega)
      have hD : defB (⟨2, key, value, entries, timer, 0⟩ : Df) = false := by unfold defB kindB1 kindB2 kindB3 valB bareB inB; simp <;> omega
      rw [hD]
      have HC0 : True := trivial
      clear hD
      go_enter Tryz.func21, Tryz.ntmps21
      go_wp2_with fail
      go_ret
      exact ⟨rfl, (Kept.refl _ w).alloc _⟩
    case pos =>
      have : decide (key ≥ 1) = true := decide_eq_true (by omega)
      have : decide ((1 : Int) ≤ key) = true := decide_eq_true (by omega)
      by_cases h12 : key ≤ 16
      case neg =>
        have : decide (key ≤ 16) = false := decide_eq_false (by omega)
        have hD : defB (⟨2, key, value, entries, timer, 0⟩ : Df) = false := by unfold defB kindB1 kindB2 kindB3 valB bareB inB; simp <;> omega
        rw [hD]
        have HC0 : True := trivial
        clear hD
        go_enter Tryz.func21, Tryz.ntmps21
        go_wp2_with fail
        go_ret
        exact ⟨rfl, (Kept.refl _ w).alloc _⟩
      case pos =>
        have : decide (key ≤ 16) = true := decide_eq_true (by omega)
        by_cases h13 : (1 : Int) ≤ value
        case neg =>
          have : decide (value ≥ 1) = false := decide_eq_false (by omega)
          have : decide ((1 : Int) ≤ value) = false := decide_eq_false (by omega)
          have hD : defB (⟨2, key, value, entries, timer, 0⟩ : Df) = false := by unfold defB kindB1 kindB2 kindB3 valB bareB inB; simp <;> omega
          rw [hD]
          have HC0 : True := trivial
          clear hD
          go_enter Tryz.func21, Tryz.ntmps21
          go_wp2_with fail
          go_ret
          exact ⟨rfl, (Kept.refl _ w).alloc _⟩
        case pos =>
          have : decide (value ≥ 1) = true := decide_eq_true (by omega)
          have : decide ((1 : Int) ≤ value) = true := decide_eq_true (by omega)
          by_cases h14 : value ≤ 256
          case neg =>
            have : decide (value ≤ 256) = false := decide_eq_false (by omega)
            have hD : defB (⟨2, key, value, entries, timer, 0⟩ : Df) = false := by unfold defB kindB1 kindB2 kindB3 valB bareB inB; simp <;> omega
            rw [hD]
            have HC0 : True := trivial
            clear hD
            go_enter Tryz.func21, Tryz.ntmps21
            go_wp2_with fail
            go_ret
            exact ⟨rfl, (Kept.refl _ w).alloc _⟩
          case pos =>
            have : decide (value ≤ 256) = true := decide_eq_true (by omega)
            cases timer
            case false =>
              by_cases h16 : (1 : Int) ≤ entries
              case neg =>
                have : decide (entries ≥ 1) = false := decide_eq_false (by omega)
                have : decide ((1 : Int) ≤ entries) = false := decide_eq_false (by omega)
                have hD : defB (⟨2, key, value, entries, false, 0⟩ : Df) = false := by unfold defB kindB1 kindB2 kindB3 valB bareB inB; simp <;> omega
                rw [hD]
                have HC0 : True := trivial
                clear hD
                go_enter Tryz.func21, Tryz.ntmps21
                go_wp2_with fail
                go_ret
                exact ⟨rfl, (Kept.refl _ w).alloc _⟩
              case pos =>
                have : decide (entries ≥ 1) = true := decide_eq_true (by omega)
                have : decide ((1 : Int) ≤ entries) = true := decide_eq_true (by omega)
                by_cases h17 : entries ≤ 64
                case neg =>
                  have : decide (entries ≤ 64) = false := decide_eq_false (by omega)
                  have hD : defB (⟨2, key, value, entries, false, 0⟩ : Df) = false := by unfold defB kindB1 kindB2 kindB3 valB bareB inB; simp <;> omega
                  rw [hD]
                  have HC0 : True := trivial
                  clear hD
                  go_enter Tryz.func21, Tryz.ntmps21
                  go_wp2_with fail
                  go_ret
                  exact ⟨rfl, (Kept.refl _ w).alloc _⟩
                case pos =>
                  have : decide (entries ≤ 64) = true := decide_eq_true (by omega)
                  have hD : defB (⟨2, key, value, entries, false, 0⟩ : Df) = true := by unfold defB kindB1 kindB2 kindB3 valB bareB inB; simp <;> omega
                  rw [hD]
                  have HC0 : True := trivial
                  clear hD
                  go_enter Tryz.func21, Tryz.ntmps21
                  go_wp2_with fail
                  go_ret
                  exact ⟨rfl, (Kept.refl _ w).alloc _⟩
            case true =>
              by_cases h15 : (16 : Int) ≤ value
              case neg =>
                have : decide (value ≥ 16) = false := decide_eq_false (by omega)
                have : decide ((16 : Int) ≤ value) = false := decide_eq_false (by omega)
                have hD : defB (⟨2, key, value, entries, true, 0⟩ : Df) = false := by unfold defB kindB1 kindB2 kindB3 valB bareB inB; simp <;> omega
                rw [hD]
                have HC0 : True := trivial
                clear hD
                go_enter Tryz.func21, Tryz.ntmps21
                go_wp2_with fail
                go_ret
                exact ⟨rfl, (Kept.refl _ w).alloc _⟩
              case pos =>
                have : decide (value ≥ 16) = true := decide_eq_true (by omega)
                have : decide ((16 : Int) ≤ value) = true := decide_eq_true (by omega)
                by_cases h18 : (1 : Int) ≤ entries
                case neg =>
                  have : decide (entries ≥ 1) = false := decide_eq_false (by omega)
                  have : decide ((1 : Int) ≤ entries) = false := decide_eq_false (by omega)
                  have hD : defB (⟨2, key, value, entries, true, 0⟩ : Df) = false := by unfold defB kindB1 kindB2 kindB3 valB bareB inB; simp <;> omega
                  rw [hD]
                  have HC0 : True := trivial
                  clear hD
                  go_enter Tryz.func21, Tryz.ntmps21
                  go_wp2_with fail
                  go_ret
                  exact ⟨rfl, (Kept.refl _ w).alloc _⟩
                case pos =>
                  have : decide (entries ≥ 1) = true := decide_eq_true (by omega)
                  have : decide ((1 : Int) ≤ entries) = true := decide_eq_true (by omega)
                  by_cases h19 : entries ≤ 64
                  case neg =>
                    have : decide (entries ≤ 64) = false := decide_eq_false (by omega)
                    have hD : defB (⟨2, key, value, entries, true, 0⟩ : Df) = false := by unfold defB kindB1 kindB2 kindB3 valB bareB inB; simp <;> omega
                    rw [hD]
                    have HC0 : True := trivial
                    clear hD
                    go_enter Tryz.func21, Tryz.ntmps21
                    go_wp2_with fail
                    go_ret
                    exact ⟨rfl, (Kept.refl _ w).alloc _⟩
                  case pos =>
                    have : decide (entries ≤ 64) = true := decide_eq_true (by omega)
                    have hD : defB (⟨2, key, value, entries, true, 0⟩ : Df) = true := by unfold defB kindB1 kindB2 kindB3 valB bareB inB; simp <;> omega
                    rw [hD]
                    have HC0 : True := trivial
                    clear hD
                    go_enter Tryz.func21, Tryz.ntmps21
                    go_wp2_with fail
                    go_ret
                    exact ⟨rfl, (Kept.refl _ w).alloc _⟩
  case neg =>
  by_cases k3 : kind = 3
  case pos =>
    subst k3
    clear h4 k1 k2
    by_cases h20 : key = 4
    case neg =>
      have : (key == 4) = false := beq_eq_false_iff_ne.2 (by omega)
      have hD : defB (⟨3, key, value, entries, timer, 0⟩ : Df) = false := by unfold defB kindB1 kindB2 kindB3 valB bareB inB; simp <;> omega
      rw [hD]
      have HC0 : True := trivial
      clear hD
      go_enter Tryz.func21, Tryz.ntmps21
      go_wp2_with fail
      go_ret
      exact ⟨rfl, (Kept.refl _ w).alloc _⟩
    case pos =>
      have : (key == 4) = true := beq_iff_eq.2 (by omega)
      by_cases h21 : value = 4
      case neg =>
        have : (value == 4) = false := beq_eq_false_iff_ne.2 (by omega)
        have hD : defB (⟨3, key, value, entries, timer, 0⟩ : Df) = false := by unfold defB kindB1 kindB2 kindB3 valB bareB inB; simp <;> omega
        rw [hD]
        have HC0 : True := trivial
        clear hD
        go_enter Tryz.func21, Tryz.ntmps21
        go_wp2_with fail
        go_ret
        exact ⟨rfl, (Kept.refl _ w).alloc _⟩
      case pos =>
        have : (value == 4) = true := beq_iff_eq.2 (by omega)
        by_cases h22 : (1 : Int) ≤ entries
        case neg =>
          have : decide (entries ≥ 1) = false := decide_eq_false (by omega)
          have : decide ((1 : Int) ≤ entries) = false := decide_eq_false (by omega)
          have hD : defB (⟨3, key, value, entries, timer, 0⟩ : Df) = false := by unfold defB kindB1 kindB2 kindB3 valB bareB inB; simp <;> omega
          rw [hD]
          have HC0 : True := trivial
          clear hD
          go_enter Tryz.func21, Tryz.ntmps21
          go_wp2_with fail
          go_ret
          exact ⟨rfl, (Kept.refl _ w).alloc _⟩
        case pos =>
          have : decide (entries ≥ 1) = true := decide_eq_true (by omega)
          have : decide ((1 : Int) ≤ entries) = true := decide_eq_true (by omega)
          by_cases h23 : entries ≤ 64
          case neg =>
            have : decide (entries ≤ 64) = false := decide_eq_false (by omega)
            have hD : defB (⟨3, key, value, entries, timer, 0⟩ : Df) = false := by unfold defB kindB1 kindB2 kindB3 valB bareB inB; simp <;> omega
            rw [hD]
            have HC0 : True := trivial
            clear hD
            go_enter Tryz.func21, Tryz.ntmps21
            go_wp2_with fail
            go_ret
            exact ⟨rfl, (Kept.refl _ w).alloc _⟩
          case pos =>
            have : decide (entries ≤ 64) = true := decide_eq_true (by omega)
            cases timer
            case true =>
              have hD : defB (⟨3, key, value, entries, true, 0⟩ : Df) = false := by unfold defB kindB1 kindB2 kindB3 valB bareB inB; simp <;> omega
              rw [hD]
              have HC0 : True := trivial
              clear hD
              go_enter Tryz.func21, Tryz.ntmps21
              go_wp2_with fail
              go_ret
              exact ⟨rfl, (Kept.refl _ w).alloc _⟩
            case false =>
              have hD : defB (⟨3, key, value, entries, false, 0⟩ : Df) = true := by unfold defB kindB1 kindB2 kindB3 valB bareB inB; simp <;> omega
              rw [hD]
              have HC0 : True := trivial
              clear hD
              go_enter Tryz.func21, Tryz.ntmps21
              go_wp2_with fail
              go_ret
              exact ⟨rfl, (Kept.refl _ w).alloc _⟩
  case neg =>
  have hD : defB (⟨kind, key, value, entries, timer, 0⟩ : Df) = false := by unfold defB; rw [if_neg k1, if_neg k2, if_neg k3]
  rw [hD]
  have e1 : (kind == 1) = false := by simpa using k1
  have e2 : (kind == 2) = false := by simpa using k2
  have e3 : (kind == 3) = false := by simpa using k3
  have e4 : (kind == 4) = false := by simpa using h4
  clear hD k1 k2 k3 h4
  go_enter Tryz.func21, Tryz.ntmps21
  go_wp2_with fail
  go_ret
  exact ⟨rfl, (Kept.refl _ w).alloc _⟩

end Go.Proofs.YtahabogjfcdjkaaGreat

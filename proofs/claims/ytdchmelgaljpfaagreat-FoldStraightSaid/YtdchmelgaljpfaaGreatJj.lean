import Derived.Test.YtdchmelgaljpfaaGreatJi
set_option linter.unusedSimpArgs false
set_option linter.unusedVariables false
namespace Go.Proofs.YtdchmelgaljpfaaGreat
open Go.RowKit

/-! ### split -/
abbrev Pt2 := Int × Int
def pcell (p : Pt2) : List Value := [.int .i64 p.1, .int .i64 p.2]
abbrev Pts (w : World) (v : Value) (P : List Pt2) : Prop := Sl w 97 2 v (P.map pcell)
theorem infoP : (Tryz.prog.info? 97).map (fun i => (i.zero, i.size, i.bytes)) = some (some (.agg #[.int .i64 0, .int .i64 0]), 2, 16) := by kernel_rfl
def partAt (B : List Int) (n : Int) (i : Nat) : Pt2 := (B.getD i 0, if i + 1 < B.length then B.getD (i + 1) 0 else n)
def partsOf (B : List Int) (n : Int) : List Pt2 := (List.range B.length).map (partAt B n)
theorem Ints.at_ {w : World} {v : Value} {L : List Int} (h : Ints w v L) {i : Nat} (hi : i < L.length) : ∃ g c, v = .slice (some ⟨g, 0, none⟩) L.length c ∧ g < w.heap.size ∧ w.cell? ⟨g, i, none⟩ = some (.int .i64 (L.getD i 0)) := by
  obtain ⟨g, c, rfl, hc, hg⟩ := Sl.some_ h (by rw [List.length_map]; omega)
  rw [List.length_map] at *
  exact ⟨g, c, rfl, hg, Ints.cell h (by rw [List.getD_eq_getElem?_getD, List.getElem?_eq_getElem hi]; rfl)⟩
set_option maxHeartbeats 4000000 in
set_option maxRecDepth 100000 in
theorem split_any (n : Nat) (a : Option Addr) (c : Nat) (B : List Int) (bv : Value) (w : World) (hB : Ints w bv B) (hlen : B.length ≤ 2000000) :
    Calls Tryz.prog 47 #[.slice a n c, bv] w fun e w' => ∃ ov, e = .returned ov ∧ Pts w' ov (partsOf B n) ∧ Kept (fun _ => False) w w' ∧ ∀ g, ov.ownBlock = some g → w.heap.size ≤ g := by
  obtain ⟨i0, hI0, hI1, hI2, hI3⟩ := info_parts infoP
  obtain ⟨bA, bc, hbv⟩ := Sl.any hB
  rw [List.length_map] at hbv
  subst hbv
  go_enter Tryz.func47, Tryz.ntmps47
  go_wp2_with fail
  go_loopw [5, 11] (fun ov iv wr => ∃ i : Nat, iv = .int .i64 i ∧ i ≤ B.length ∧ Pts wr ov ((List.range i).map (partAt B n)) ∧ Kept (fun _ => False) w wr ∧ ∀ g, ov.ownBlock = some g → w.heap.size ≤ g) (fun _ iv _ => B.length - (intOf iv).toNat)
  case atStart => exact ⟨0, rfl, by omega, Sl.nil _ _ _, Kept.refl _ _, fun g hg => by simp [Value.ownBlock] at hg⟩
  case round =>
    obtain ⟨i, rfl, hi, hP, hK, hown⟩ := hrel
    by_cases hlt : i < B.length
    case neg =>
      obtain rfl : i = B.length := by omega
      go_wp2_with fail
      go_ret
      exact ⟨_, rfl, hP, hK, hown⟩
    case pos =>
      have hB2 := Sl.kept hK hB (fun _ _ h => h)
      obtain ⟨g, bc', hv, hg, d0⟩ := Ints.at_ hB2 hlt
      obtain ⟨rfl, -, rfl⟩ := Value.slice.inj hv
      have hml : ((List.range i).map (partAt B n)).length = i := by simp
      have hnx : (List.range (i + 1)).map (partAt B n) = (List.range i).map (partAt B n) ++ [partAt B n i] := by rw [List.range_succ, List.map_append]; rfl
      by_cases hl1 : i + 1 < B.length
      · obtain ⟨g', bc', hv', hg', d1⟩ := Ints.at_ hB2 hl1
        cases hv'
        have hpa : partAt B n i = (B.getD i 0, B.getD (i + 1) 0) := by unfold partAt; rw [if_pos hl1]
        rw [hpa] at hnx
        have HNX := Lib.hid hnx
        have HOWN := Lib.hid hown
        have HML := Lib.hid hml
        clear hnx hpa hown hml hB2 hB hv
        generalize B.getD i 0 = f at *
        generalize B.getD (i + 1) 0 = t at *
        go_wp2_with (at_builtin; refine wpList_push (w := wr) rfl (.tmp 28) (.tmp 32) 93 rfl Tryz.underlying93 hI0 hI1 hI2 hI3 rfl (by omega) u5 (((List.range i).map (partAt B n)).map pcell) (pcell (f, t)) rfl rfl hP rfl (by simp [pcell, Value.oneCell']) (by rw [List.length_map, HML.out]; omega) (by omega) ?_; intro g5 cap5 w5 hS5 hk5 hg5)
        have hK5 := hK.trans hk5 (fun k hk e => by have := HOWN.out k e; omega)
        have hS6 : Pts w5 (.slice (some ⟨g5, 0, none⟩) (i + 1) cap5) ((List.range (i + 1)).map (partAt B n)) := by
          rw [HNX.out]
          unfold Pts
          rw [List.map_append]
          have h5 := hS5
          rw [List.length_map, HML.out] at h5
          exact h5
        go_roundw
        case rel => exact ⟨i + 1, by go_num, by omega, hS6, hK5, fun g hg => by
          have hg2 : g5 = g := Option.some.inj hg
          subst hg2
          exact hg5.elim (HOWN.out _) (fun h => Nat.le_trans hK.size h)⟩
        case measure => simp [intOf]; omega
      · have hpa : partAt B n i = (B.getD i 0, (n : Int)) := by unfold partAt; rw [if_neg hl1]
        rw [hpa] at hnx
        have HNX := Lib.hid hnx
        have HOWN := Lib.hid hown
        have HML := Lib.hid hml
        clear hnx hpa hown hml hB2 hB hv
        generalize B.getD i 0 = f at *
        go_wp2_with (at_builtin; refine wpList_push (w := wr) rfl (.tmp 28) (.tmp 32) 93 rfl Tryz.underlying93 hI0 hI1 hI2 hI3 rfl (by omega) u5 (((List.range i).map (partAt B n)).map pcell) (pcell (f, (n : Int))) rfl rfl hP rfl (by simp [pcell, Value.oneCell']) (by rw [List.length_map, HML.out]; omega) (by omega) ?_; intro g5 cap5 w5 hS5 hk5 hg5)
        have hK5 := hK.trans hk5 (fun k hk e => by have := HOWN.out k e; omega)
        have hS6 : Pts w5 (.slice (some ⟨g5, 0, none⟩) (i + 1) cap5) ((List.range (i + 1)).map (partAt B n)) := by
          rw [HNX.out]
          unfold Pts
          rw [List.map_append]
          have h5 := hS5
          rw [List.length_map, HML.out] at h5
          exact h5
        go_roundw
        case rel => exact ⟨i + 1, by go_num, by omega, hS6, hK5, fun g hg => by
          have hg2 : g5 = g := Option.some.inj hg
          subst hg2
          exact hg5.elim (HOWN.out _) (fun h => Nat.le_trans hK.size h)⟩
        case measure => simp [intOf]; omega

end Go.Proofs.YtdchmelgaljpfaaGreat

import Derived.Test.YtdchmelgaljpfaaGreatJp
set_option linter.unusedSimpArgs false
set_option linter.unusedVariables false
namespace Go.Proofs.YtdchmelgaljpfaaGreat
open Go.RowKit

def namesR (x : In) : Bool := (isR x 8 && (x.src == 1)) || ((x.op == 24) && (x.src == 4))
set_option maxHeartbeats 4000000 in
theorem rnames_any (x : In) (w : World) (hx : InOk x) : Calls Tryz.prog 62 #[.agg (inVals x)] w fun e w' => e = .returned (.bool (namesR x)) ∧ Kept (fun _ => False) w w' := by
  have HI := Lib.hid (fun W => ris_any x 8 W hx)
  have HW := Lib.hid (fun W => rwide_any x W)
  obtain ⟨r, hr⟩ : ∃ r, namesR x = r := ⟨_, rfl⟩
  rw [hr]
  unfold namesR at hr
  generalize isR x 8 = b at *
  have hBn := Blk.new w 75 (inVals x)
  cases b <;> cases h1 : (x.src == 1) <;> cases h24 : (x.op == 24)
  all_goals
    simp only [h1, h24, Bool.true_and, Bool.false_and, Bool.true_or, Bool.false_or, Bool.or_true, Bool.and_true, Bool.and_false] at hr
    rw [h24] at HW
    subst hr
    go_enter Tryz.func62, Tryz.ntmps62
    go_wp2_with fail
    refine (HI.out _).mono ?_
    rintro e w1 ⟨rfl, hk1⟩
    have hb1 := hk1.blk (fun h => h) hBn
    have hK1 : Kept (fun _ => False) w w1 := ((Kept.refl _ w).alloc _).trans hk1 (fun _ _ h => h)
    have hl1 := hb1.lt
    have x0 := hb1.cell 0
    have x1 := hb1.cell 1
    have x2 := hb1.cell 2
    have x3 := hb1.cell 3
    have x4 := hb1.cell 4
    clear hk1
    go_wp2_with (go_at_call 77; refine (HW.out _).mono ?_; rintro e w2 ⟨rfl, rfl⟩)
    go_ret
    exact ⟨rfl, by first | exact hK1 | exact hK1.alloc _⟩
def helperR (x : In) : Bool := isR x 8 && (x.src == 0)
set_option maxHeartbeats 4000000 in
theorem rhelper_any (x : In) (w : World) (hx : InOk x) : Calls Tryz.prog 118 #[.agg (inVals x)] w fun e w' => e = .returned (.bool (helperR x)) ∧ Kept (fun _ => False) w w' := by
  have HI := Lib.hid (fun W => ris_any x 8 W hx)
  obtain ⟨r, hr⟩ : ∃ r, helperR x = r := ⟨_, rfl⟩
  rw [hr]
  unfold helperR at hr
  generalize isR x 8 = b at *
  have hBn := Blk.new w 75 (inVals x)
  cases b
  all_goals
    simp only [Bool.true_and, Bool.false_and] at hr
    subst hr
    go_enter Tryz.func118, Tryz.ntmps118
    go_wp2_with fail
    refine (HI.out _).mono ?_
    rintro e w1 ⟨rfl, hk1⟩
    have hb1 := hk1.blk (fun h => h) hBn
    have hK1 : Kept (fun _ => False) w w1 := ((Kept.refl _ w).alloc _).trans hk1 (fun _ _ h => h)
    have x0 := hb1.cell 0
    have x2 := hb1.cell 2
    clear hk1
    go_wp2_with fail
    go_ret
    exact ⟨rfl, hK1⟩

/-! ### Seconds -/
set_option maxHeartbeats 4000000 in
set_option maxRecDepth 100000 in
theorem seconds_any (l : List In) (a : Option Addr) (c : Nat) (w : World) (h : Ins w (.slice a l.length c) l) (hok : InsOk l) :
    Calls Tryz.prog 56 #[.slice a l.length c] w fun e w' => ∃ ov, e = .returned ov ∧ Bls w' ov (secL l) ∧ Kept (fun _ => False) w w' ∧ ∀ g, ov.ownBlock = some g → w.heap.size ≤ g := by
  have hlen := hok.len
  have HWI := Lib.hid (fun x W => rwide_any x W)
  obtain ⟨i0, hI0, hI1, hI2, hI3⟩ := info_parts infoB
  go_enter Tryz.func56, Tryz.ntmps56
  go_wp2_with (refine wpList_makeSl (w := w) rfl (.tmp 6) (.tmp 6) 85 rfl (.bool false) rfl Tryz.underlying85 hI0 hI1 hI2 hI3 (by omega) l.length rfl rfl (by omega) ?_; intro w1 hB1 hk1)
  have hB1' : Bls w1 (.slice (some ⟨w.heap.size, 0, none⟩) l.length l.length) (mixL (secL l) l.length 1) := by
    rw [mixL_one]
    unfold Bls
    rw [List.map_replicate]
    exact hB1
  clear hB1
  go_loopw [4] (fun iv wr => ∃ j : Nat, iv = .int .i64 ((j : Int) + 1) ∧ (j + 1 ≤ l.length ∨ j = 0) ∧ Bls wr (.slice (some ⟨w.heap.size, 0, none⟩) l.length l.length) (mixL (secL l) l.length (j + 1)) ∧ Kept (fun _ => False) w wr) (fun iv _ => l.length - (intOf iv).toNat)
  case atStart => exact ⟨0, rfl, .inr rfl, hB1', hk1⟩
  case round =>
    clear hB1' hk1
    obtain ⟨j, rfl, hj, hB, hK⟩ := hrel
    by_cases hlt : j + 1 < l.length
    case neg =>
      rw [mixL_end (sec_len l) (by omega)] at hB
      have hnd : decide ((j : Int) + 1 < l.length) = false := decide_eq_false (by omega)
      clear hj hlt
      go_wp2_with fail
      go_ret
      exact ⟨_, rfl, hB, hK, fun g hg => Nat.le_of_eq (Option.some.inj (show some w.heap.size = some g from hg))⟩
    case pos =>
      obtain ⟨x, hx⟩ : ∃ x, l[j]? = some x := ⟨_, List.getElem?_eq_getElem (by omega)⟩
      obtain ⟨b, hb⟩ : ∃ b, (secL l)[j]? = some b := ⟨_, List.getElem?_eq_getElem (by rw [sec_len]; omega)⟩
      have hs := sec_succ hx hb hlt
      obtain ⟨g, off, rfl, hg, c0, c1, c2, c3, c4⟩ := (h.kept hK).at_ hx
      have hal : Kept (fun _ => False) wr (wr.alloc (.cells (inVals x) 75)) := (Kept.refl _ wr).alloc _
      have hBa := Sl.kept hal hB (fun _ _ h => h)
      have hml := mixL_len (i := j + 1) (sec_len l) (by omega)
      have d0 := Bls.cell hB (i := j) (x := b) (by rw [mixL_lt (sec_len l) (by omega) (by omega)]; exact hb)
      have d1 := Bls.cell hB (i := j + 1) (x := false) (mixL_at (sec_len l) hlt)
      have f1 := Sl.frozen hB (j + 1)
      have hgl := Sl.lt hB w.heap.size rfl
      obtain ⟨v, hv⟩ : ∃ v, (x.op == 24 && !b) = v := ⟨_, rfl⟩
      rw [hv] at hs
      have hB0 := Bls.set hB (i := j + 1) (by rw [hml]; omega) v
      rw [mixL_set (sec_len l) hlt hs] at hB0
      have hB2 := Sl.alloc hB0 (.cells (inVals x) 75)
      have hK2 : Kept (fun _ => False) w ((wr.setCell ⟨w.heap.size, j + 1, none⟩ (.bool v)).alloc (.cells (inVals x) 75)) := (hK.setCell (fun h => by simp at h) _).alloc _
      have HW := Lib.hid (fun W => HWI.out x W)
      clear hs hx hb hml hB hBa hal hB0
      cases h24 : (x.op == 24) <;> cases b
      all_goals
        simp only [h24, Bool.not_false, Bool.not_true, Bool.true_and, Bool.false_and] at hv
        rw [h24] at HW
        subst hv
        go_wp2_with (go_at_call 77; refine (HW.out _).mono ?_; rintro e w2 ⟨rfl, rfl⟩)
        exact ⟨⟨j + 1, by go_num, .inl (by omega), hB2, hK2⟩, by simp [intOf]; omega⟩

end Go.Proofs.YtdchmelgaljpfaaGreat

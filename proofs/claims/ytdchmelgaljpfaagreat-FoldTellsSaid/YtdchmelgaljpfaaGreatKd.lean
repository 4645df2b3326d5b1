import Derived.Test.YtdchmelgaljpfaaGreatKc
set_option linter.unusedSimpArgs false
set_option linter.unusedVariables false
namespace Go.Proofs.YtdchmelgaljpfaaGreat
open Go.RowKit

/-! ### flow.Reached -/
set_option maxHeartbeats 4000000 in
set_option maxRecDepth 100000 in
theorem fReached_any (l : List In) (a : Option Addr) (c : Nat) (w : World) (h : Ins w (.slice a l.length c) l) (hok : InsOk l) :
    Calls Tryz.prog 52 #[.slice a l.length c] w fun e w' => ∃ ov, e = .returned (.tuple #[ov, .int .i64 (checkI l)]) ∧ (checkI l = 0 → Bls w' ov (rchL l)) ∧ Kept (fun _ => False) w w' ∧ ∀ g, ov.ownBlock = some g → w.heap.size ≤ g := by
  have HCK := Lib.hid (fun W hI => icheck_any l a c W hI hok)
  have HRE := Lib.hid (fun hz W hI => freached_any l a c W hI hok hz)
  have HIN := Lib.hid (fun (W : World) (hk : Kept (fun _ => False) w W) => h.kept hk)
  clear h hok
  by_cases hz : checkI l = 0
  case neg =>
    have hzd : (checkI l != 0) = true := by simpa using hz
    generalize checkI l = r at *
    have HNZ := Lib.hid hz
    clear hz HRE
    go_enter Tryz.func52, Tryz.ntmps52
    go_wp2_with fail
    refine (HCK.out _ (HIN.out _ (Kept.refl _ w))).mono ?_
    rintro e w1 ⟨⟨p, rfl⟩, hk1⟩
    go_wp2_with fail
    go_ret2
    exact ⟨_, rfl, fun h => absurd h HNZ.out, hk1, fun g hg => by simp [Value.ownBlock] at hg⟩
  case pos =>
    have HRE2 := Lib.hid (HRE.out hz)
    rw [hz] at HCK
    rw [hz]
    clear hz HRE
    go_enter Tryz.func52, Tryz.ntmps52
    go_wp2_with fail
    refine (HCK.out _ (HIN.out _ (Kept.refl _ w))).mono ?_
    rintro e w1 ⟨⟨p, rfl⟩, hk1⟩
    go_wp2_with fail
    refine (HRE2.out _ (HIN.out _ hk1)).mono ?_
    rintro e w2 ⟨ov, rfl, hB, hk2, ho2⟩
    have hsz := hk1.size
    go_wp2_with fail
    go_ret2
    exact ⟨_, rfl, fun _ => hB, hk1.trans hk2 (fun _ _ h => h), fun g hg => by have := ho2 g hg; omega⟩

/-! ### the document's next -/
def nextR (i : Nat) (x : In) : List Int := if isR x 9 = true then [] else if isR x 0 = true then [(i : Int) + 1 + x.off] else if cmpR x = true then (if (x.off == 0) = true then [(i : Int) + 1] else [(i : Int) + 1, (i : Int) + 1 + x.off])
  else if (x.op == 24) = true then [(i : Int) + 2] else [(i : Int) + 1]
theorem nextR_eq {i : Nat} {x : In} (h : InOk x) (hk : knownB x = true) : nextR i x = nextC i x := by
  have hj := jump_eq h hk
  have h9 := isR9 h hk
  have h0 := isR0 h hk
  unfold nextR nextC
  rw [h9, h0]
  rw [h0] at hj
  cases e9 : (x.op == 149)
  · cases e0 : (x.op == 5)
    · rw [e0, Bool.false_or] at hj
      rw [hj]
      cases ec : cmpR x
      · cases e24 : (x.op == 24) <;> simp
      · have e24 : (x.op == 24) = false := by
          rw [ec] at hj
          cases e : (x.op == 24)
          · rfl
          · rw [wide_nojump (by simpa using e)] at hj
            cases hj
        rw [e24]
        cases eo : (x.off == 0)
        · simp
        · have : x.off = 0 := by simpa using eo
          simp [this]
    · have e24 : (x.op == 24) = false := by
        have : x.op = 5 := by simpa using e0
        rw [this]
        rfl
      rw [e0, Bool.true_or] at hj
      rw [e24, hj]
      simp
  · simp
set_option maxHeartbeats 8000000 in
set_option maxRecDepth 100000 in
theorem rnext_any (l : List In) (a : Option Addr) (c i : Nat) (x : In) (w : World) (h : Ins w (.slice a l.length c) l) (hok : InsOk l) (hx : l[i]? = some x) :
    Calls Tryz.prog 61 #[.slice a l.length c, .int .i64 i] w fun e w' => ∃ ov, e = .returned ov ∧ Ints w' ov (nextR i x) ∧ Kept (fun _ => False) w w' ∧ ∀ g, ov.ownBlock = some g → w.heap.size ≤ g := by
  have hlen := hok.len
  have hi := (List.getElem?_eq_some_iff.1 hx).1
  have hxo := hok.at_ hx
  have hoff := hxo.off
  have H9 := Lib.hid (fun W => ris_any x 9 W hxo)
  have H0 := Lib.hid (fun W => ris_any x 0 W hxo)
  have HC := Lib.hid (fun W => rcompares_any x W hxo)
  have HW := Lib.hid (fun W => rwide_any x W)
  obtain ⟨N, hN⟩ : ∃ N, nextR i x = N := ⟨_, rfl⟩
  rw [hN]
  unfold nextR at hN
  generalize isR x 9 = b9 at *
  generalize isR x 0 = b0 at *
  generalize cmpR x = bc at *
  obtain ⟨g, off, rfl, hg, c0, c1, c2, c3, c4⟩ := h.at_ hx
  have hBn := Blk.new w 75 (inVals x)
  have hKn : Kept (fun _ => False) w (w.alloc (.cells (inVals x) 75)) := (Kept.refl _ w).alloc _
  clear h hok hx hxo
  have HN := Lib.hid hN
  clear hN
  go_enter Tryz.func61, Tryz.ntmps61
  go_wp2_with fail
  refine (H9.out _).mono ?_
  rintro e w1 ⟨rfl, hk1⟩
  have hK1 := hKn.trans hk1 (fun _ _ h => h)
  have hb1 := hk1.blk (fun h => h) hBn
  clear hBn hKn hk1
  cases b9
  case true =>
    have hN := HN.out
    simp only [if_true] at hN
    subst hN
    go_wp2_with fail
    go_ret
    exact ⟨_, rfl, Sl.nil _ _ _, hK1, fun g hg => by simp [Value.ownBlock] at hg⟩
  case false =>
  have x0 := hb1.cell 0
  have x1 := hb1.cell 1
  have x2 := hb1.cell 2
  have x3 := hb1.cell 3
  have x4 := hb1.cell 4
  go_wp2_with fail
  refine (H0.out _).mono ?_
  rintro e w2 ⟨rfl, hk2⟩
  have hK2 := hK1.trans hk2 (fun _ _ h => h)
  have hb2 := hk2.blk (fun h => h) hb1
  have hz2 := hK2.size
  clear x0 x1 x2 x3 x4 hb1 hK1 hk2
  have x0 := hb2.cell 0
  have x1 := hb2.cell 1
  have x2 := hb2.cell 2
  have x3 := hb2.cell 3
  have x4 := hb2.cell 4
  cases b0
  case true =>
    have hN := HN.out
    simp only [if_true, if_false, Bool.false_eq_true] at hN
    subst hN
    go_wp2_with fail
    go_ret
    exact ⟨_, rfl, ints_one _ _, hK2.alloc _, fun g hg => by simp [Value.ownBlock] at hg; omega⟩
  case false =>
  go_wp2_with fail
  refine (HC.out _).mono ?_
  rintro e w3 ⟨rfl, hk3⟩
  have hK3 := hK2.trans hk3 (fun _ _ h => h)
  have hb3 := hk3.blk (fun h => h) hb2
  have hz3 := hK3.size
  clear x0 x1 x2 x3 x4 hb2 hK2 hk3 hz2
  have x0 := hb3.cell 0
  have x1 := hb3.cell 1
  have x2 := hb3.cell 2
  have x3 := hb3.cell 3
  have x4 := hb3.cell 4
  have hlt3 := hb3.lt
  cases bc
  case true =>
    cases eo : (x.off == 0)
    case true =>
      have hN := HN.out
      simp only [if_true, if_false, Bool.false_eq_true, eo] at hN
      subst hN
      clear HN
      go_wp2_with fail
      go_ret
      exact ⟨_, rfl, ints_one _ _, hK3.alloc _, fun g hg => by simp [Value.ownBlock] at hg; omega⟩
    case false =>
      have hN := HN.out
      simp only [if_true, if_false, Bool.false_eq_true, eo] at hN
      subst hN
      clear HN
      go_wp2_with fail
      go_ret
      exact ⟨_, rfl, ints_two _ _ _, hK3.alloc _, fun g hg => by simp [Value.ownBlock] at hg; omega⟩
  case false =>
    cases e24 : (x.op == 24)
    all_goals
      rw [e24] at HW
      have hN := HN.out
      simp only [if_true, if_false, Bool.false_eq_true, e24] at hN
      subst hN
      clear HN
      go_wp2_with (go_at_call 77; refine (HW.out _).mono ?_; rintro e w4 ⟨rfl, rfl⟩)
      go_ret
      exact ⟨_, rfl, ints_one' (n := w3.heap.size + 1) (w3.alloc (.cells (inVals x) 75)) _ (by show _ = (Array.push _ _).size; rw [Array.size_push]), (hK3.alloc _).alloc _, fun g hg => by simp [Value.ownBlock] at hg; omega⟩

end Go.Proofs.YtdchmelgaljpfaaGreat

import Derived.Test.YtdchmelgaljpfaaGreatJy
set_option linter.unusedSimpArgs false
set_option linter.unusedVariables false
namespace Go.Proofs.YtdchmelgaljpfaaGreat
open Go.RowKit

/-! ### the ways of slots -/
def fjB (x : In) : Bool := (((clsI x == 5) || (clsI x == 6)) && (x.op != 133)) && (x.op != 149)
theorem fj_eq {x : In} (h : InOk x) (hk : knownB x = true) : fjB x = isJumpB x := by
  have h8 := isR8 h hk
  have h9 := isR9 h hk
  unfold isR at h8 h9
  have hop := h.op
  by_cases h6 : clsI x = 6
  · have e8 : (x.op == 133) = false := by rw [← h8, h6]; rfl
    have e9 : (x.op == 149) = false := by rw [← h9, h6]; rfl
    have c8 : ¬ codeI x = 8 ∧ ¬ codeI x = 9 := by
      unfold knownB jumpB wholeJ at hk
      rw [h6] at hk
      constructor
      · intro e
        rw [e] at hk
        simp at hk
      · intro e
        rw [e] at hk
        simp at hk
    unfold fjB isJumpB
    simp only [bne, e8, e9, h6]
    simp [c8]
  · by_cases h5 : clsI x = 5
    · rw [h5] at h8 h9
      unfold fjB isJumpB
      simp only [bne, ← h8, ← h9, h5]
      simp
    · have e5 : (clsI x == 5) = false := by simpa using h5
      have e6 : (clsI x == 6) = false := by simpa using h6
      unfold fjB isJumpB
      rw [e5, e6]
      rfl
theorem call_nojump {x : In} (h : isCallB x = true) : isJumpB x = false := by
  unfold isCallB at h
  simp only [Bool.or_eq_true, Bool.and_eq_true, beq_iff_eq] at h
  unfold isJumpB clsI codeI
  rcases h with ⟨h, _⟩ | ⟨h, _⟩ <;> rw [h] <;> rfl
theorem ja_jump {x : In} (h : x.op = 5) : isJumpB x = true := by
  unfold isJumpB clsI codeI
  rw [h]
  rfl
set_option maxHeartbeats 4000000 in
theorem fjumps_any (x : In) (w : World) (hx : InOk x) : Calls Tryz.prog 154 #[.agg (inVals x)] w fun e w' => e = .returned (.bool (fjB x)) ∧ Kept (fun _ => False) w w' := by
  have h7 := and7 hx.op
  obtain ⟨r, hr⟩ : ∃ r, fjB x = r := ⟨_, rfl⟩
  rw [hr]
  unfold fjB clsI at hr
  generalize x.op % 8 = cl at *
  cases h5 : (cl == 5) <;> cases h6 : (cl == 6) <;> cases h1 : (x.op != 133) <;> cases h2 : (x.op != 149)
  all_goals
    simp only [h5, h6, h1, h2, Bool.true_and, Bool.false_and, Bool.true_or, Bool.false_or, Bool.or_true, Bool.and_true, Bool.and_false] at hr
    subst hr
    go_enter Tryz.func154, Tryz.ntmps154
    go_wp2_with fail
    go_ret
    exact ⟨rfl, by repeat (first | exact Kept.refl _ _ | refine Kept.alloc ?_ _)⟩
def nextC (i : Nat) (x : In) : List Int := if (x.op == 149) = true then [] else if (x.op == 24) = true then [(i : Int) + 2] else if isJumpB x = false then [(i : Int) + 1]
  else if ((x.op == 5) || (x.off == 0)) = true then [(i : Int) + 1 + x.off] else [(i : Int) + 1, (i : Int) + 1 + x.off]
def namC (i : Nat) (x : In) : Option Int := if isCallB x = true then some ((i : Int) + 1 + x.imm) else none
theorem ints_one (w : World) (y : Int) : Ints (w.alloc (.cells #[.int .i64 y] 3)) (.slice (some ⟨w.heap.size, 0, none⟩) 1 1) [y] := by
  have hb : (w.alloc (.cells #[.int .i64 y] 3)).heap[w.heap.size]? = some (.cells #[.int .i64 y] 3 (0, 0)) := heap_alloc_new w _
  exact ⟨fun c hc => by obtain ⟨u, _, rfl⟩ := List.mem_map.1 hc; rfl, rfl, .inr ⟨w.heap.size, 1, _, rfl, Nat.zero_le _, hb, Nat.le_refl _, by unfold maxLen; omega, rfl, rfl⟩⟩
theorem ints_one' (w : World) (y : Int) {n : Nat} (hn : n = w.heap.size) : Ints (w.alloc (.cells #[.int .i64 y] 3)) (.slice (some ⟨n, 0, none⟩) 1 1) [y] := by
  subst hn
  exact ints_one w y
theorem ints_two (w : World) (y z : Int) : Ints (w.alloc (.cells #[.int .i64 y, .int .i64 z] 3)) (.slice (some ⟨w.heap.size, 0, none⟩) 2 2) [y, z] := by
  have hb : (w.alloc (.cells #[.int .i64 y, .int .i64 z] 3)).heap[w.heap.size]? = some (.cells #[.int .i64 y, .int .i64 z] 3 (0, 0)) := heap_alloc_new w _
  exact ⟨fun c hc => by obtain ⟨u, _, rfl⟩ := List.mem_map.1 hc; rfl, rfl, .inr ⟨w.heap.size, 2, _, rfl, Nat.zero_le _, hb, Nat.le_refl _, by unfold maxLen; omega, rfl, rfl⟩⟩
set_option maxHeartbeats 8000000 in
set_option maxRecDepth 100000 in
theorem next_any (l : List In) (a : Option Addr) (c i : Nat) (x : In) (w : World) (h : Ins w (.slice a l.length c) l) (hok : InsOk l) (hx : l[i]? = some x) (hk : knownB x = true) :
    Calls Tryz.prog 115 #[.slice a l.length c, .int .i64 i] w fun e w' => ∃ ov, e = .returned ov ∧ Ints w' ov (nextC i x) ∧ Kept (fun _ => False) w w' ∧ ∀ g, ov.ownBlock = some g → w.heap.size ≤ g := by
  have hlen := hok.len
  have hi := (List.getElem?_eq_some_iff.1 hx).1
  have hxo := hok.at_ hx
  have hoff := hxo.off
  have HJ := Lib.hid (fun W => fjumps_any x W hxo)
  rw [fj_eq hxo hk] at HJ
  obtain ⟨N, hN⟩ : ∃ N, nextC i x = N := ⟨_, rfl⟩
  rw [hN]
  unfold nextC at hN
  have HEX : x.op = 5 → isJumpB x = true := ja_jump
  generalize isJumpB x = j at *
  obtain ⟨g, off, rfl, hg, c0, c1, c2, c3, c4⟩ := h.at_ hx
  have hBn := Blk.new w 75 (inVals x)
  have hKn : Kept (fun _ => False) w (w.alloc (.cells (inVals x) 75)) := (Kept.refl _ w).alloc _
  clear h hok hx hk hxo HEX
  cases h149 : (x.op == 149)
  case true =>
    simp only [h149, if_true] at hN
    subst hN
    go_enter Tryz.func115, Tryz.ntmps115
    go_wp2_with fail
    go_ret
    exact ⟨_, rfl, Sl.nil _ _ _, hKn, fun g hg => by simp [Value.ownBlock] at hg⟩
  case false =>
  cases h24 : (x.op == 24)
  case true =>
    simp only [h149, h24, if_true, if_false, Bool.false_eq_true] at hN
    subst hN
    go_enter Tryz.func115, Tryz.ntmps115
    go_wp2_with fail
    go_ret
    exact ⟨_, rfl, ints_one' (n := w.heap.size + 1) (w.alloc (.cells (inVals x) 75)) ((i : Int) + 2) (by show _ = (Array.push _ _).size; rw [Array.size_push]), hKn.alloc _, fun g hg => by simp [Value.ownBlock] at hg; omega⟩
  case false =>
  simp only [h149, h24, if_false, Bool.false_eq_true] at hN
  cases j
  case false =>
    simp only [if_true] at hN
    subst hN
    go_enter Tryz.func115, Tryz.ntmps115
    go_wp2_with fail
    refine (HJ.out _).mono ?_
    rintro e w1 ⟨rfl, hk1⟩
    have hK1 := hKn.trans hk1 (fun _ _ h => h)
    have hz := hK1.size
    go_wp2_with fail
    go_ret
    exact ⟨_, rfl, ints_one _ _, hK1.alloc _, fun g hg => by simp [Value.ownBlock] at hg; omega⟩
  case true =>
    simp only [if_false, Bool.true_eq_false] at hN
    have HN := Lib.hid hN
    clear hN
    go_enter Tryz.func115, Tryz.ntmps115
    go_wp2_with fail
    refine (HJ.out _).mono ?_
    rintro e w1 ⟨rfl, hk1⟩
    have hK1 := hKn.trans hk1 (fun _ _ h => h)
    have hb1 := hk1.blk (fun h => h) hBn
    have hz := hK1.size
    have x0 := hb1.cell 0
    have x3 := hb1.cell 3
    clear hBn hKn hk1 hb1
    have hN := HN.out
    cases h5 : (x.op == 5)
    case true =>
      simp only [h5, Bool.true_or, if_true] at hN
      subst hN
      clear HN
      go_wp2_with fail
      go_ret
      exact ⟨_, rfl, ints_one _ _, hK1.alloc _, fun g hg => by simp [Value.ownBlock] at hg; omega⟩
    case false =>
      cases h0 : (x.off == 0)
      case true =>
        simp only [h5, h0, Bool.false_or, if_true] at hN
        subst hN
        clear HN
        have hto : ((i : Int) + 1 + x.off == (i : Int) + 1) = true := by simp at h0 ⊢; omega
        go_wp2_with fail
        go_ret
        exact ⟨_, rfl, ints_one _ _, hK1.alloc _, fun g hg => by simp [Value.ownBlock] at hg; omega⟩
      case false =>
        simp only [h5, h0, Bool.false_or, if_false, Bool.false_eq_true] at hN
        subst hN
        clear HN
        have hto : ((i : Int) + 1 + x.off == (i : Int) + 1) = false := by simp at h0 ⊢; omega
        go_wp2_with fail
        go_ret
        exact ⟨_, rfl, ints_two _ _ _, hK1.alloc _, fun g hg => by simp [Value.ownBlock] at hg; omega⟩

/-! ### where a call goes -/
set_option maxHeartbeats 8000000 in
set_option maxRecDepth 100000 in
theorem target_any (l : List In) (a : Option Addr) (c i : Nat) (x : In) (w : World) (h : Ins w (.slice a l.length c) l) (hok : InsOk l) (hx : l[i]? = some x) (hk : knownB x = true) (hj : isJumpB x = false)
    (hrg : isCallB x = true → 0 ≤ (i : Int) + 1 + x.imm ∧ (i : Int) + 1 + x.imm < l.length) :
    Calls Tryz.prog 189 #[.slice a l.length c, .int .i64 i] w fun e w' => e = .returned (.tuple #[.int .i64 (if isCallB x = true then (i : Int) + 1 + x.imm else 0), .bool (isCallB x)]) ∧ Kept (fun _ => False) w w' := by
  obtain ⟨T, hT⟩ : ∃ T, (if isCallB x = true then (i : Int) + 1 + x.imm else 0) = T := ⟨_, rfl⟩
  rw [hT]
  have hlen := hok.len
  have hi := (List.getElem?_eq_some_iff.1 hx).1
  have hxo := hok.at_ hx
  have HK := Lib.hid (fun W => known1_any x W hxo)
  have HC := Lib.hid (fun W hI => calls_any l a c i x W hI hok hx)
  have HJ := Lib.hid (fun W hI => jumps_any l a c i x W hI hok hx)
  have HIN := Lib.hid (fun (W : World) (hk : Kept (fun _ => False) w W) => h.kept hk)
  rw [hk] at HK
  rw [hj] at HJ
  obtain ⟨g, off, rfl, hg, c0, c1, c2, c3, c4⟩ := h.at_ hx
  generalize isCallB x = ic at *
  generalize (i : Int) + 1 + x.imm = t at *
  generalize (i : Int) + 1 + x.off = t2 at *
  have hnd : decide ((l.length : Int) ≤ i) = false := decide_eq_false (by omega)
  clear h hok hx hk hj hxo
  cases ic
  case false =>
    simp only [Bool.false_eq_true, if_false] at hT
    subst hT
    clear hrg
    go_enter Tryz.func189, Tryz.ntmps189
    go_wp2_with fail
    refine (HK.out _).mono ?_
    rintro e w1 ⟨rfl, hk1⟩
    go_wp2_with fail
    refine (HC.out _ (HIN.out _ hk1)).mono ?_
    rintro e w2 ⟨rfl, hk2⟩
    have hK2 := hk1.trans hk2 (fun _ _ h => h)
    go_wp2_with fail
    refine (HJ.out _ (HIN.out _ hK2)).mono ?_
    rintro e w3 ⟨rfl, hk3⟩
    have hK3 := hK2.trans hk3 (fun _ _ h => h)
    go_wp2_with fail
    go_ret2
    exact ⟨rfl, hK3⟩
  case true =>
    obtain ⟨r1, r2⟩ := hrg rfl
    have d1 : decide (t < 0) = false := decide_eq_false (by omega)
    have d2 : decide ((l.length : Int) ≤ t) = false := decide_eq_false (by omega)
    simp only [if_true] at hT
    subst hT
    clear hrg r1 r2
    go_enter Tryz.func189, Tryz.ntmps189
    go_wp2_with fail
    refine (HK.out _).mono ?_
    rintro e w1 ⟨rfl, hk1⟩
    go_wp2_with fail
    refine (HC.out _ (HIN.out _ hk1)).mono ?_
    rintro e w2 ⟨rfl, hk2⟩
    have hK2 := hk1.trans hk2 (fun _ _ h => h)
    go_wp2_with fail
    go_ret2
    exact ⟨rfl, hK2⟩
set_option maxHeartbeats 4000000 in
set_option maxRecDepth 100000 in
theorem fnames_any (l : List In) (a : Option Addr) (c i : Nat) (x : In) (w : World) (h : Ins w (.slice a l.length c) l) (hok : InsOk l) (hx : l[i]? = some x) (hk : knownB x = true)
    (hrg : isCallB x = true → 0 ≤ (i : Int) + 1 + x.imm ∧ (i : Int) + 1 + x.imm < l.length) :
    Calls Tryz.prog 151 #[.slice a l.length c, .int .i64 i] w fun e w' => e = .returned (.tuple #[.int .i64 (if isCallB x = true then (i : Int) + 1 + x.imm else 0), .bool (isCallB x)]) ∧ Kept (fun _ => False) w w' := by
  obtain ⟨T, hT⟩ : ∃ T, (if isCallB x = true then (i : Int) + 1 + x.imm else 0) = T := ⟨_, rfl⟩
  rw [hT]
  have hlen := hok.len
  have hi := (List.getElem?_eq_some_iff.1 hx).1
  have hxo := hok.at_ hx
  have HJ := Lib.hid (fun W => fjumps_any x W hxo)
  rw [fj_eq hxo hk] at HJ
  have HT := Lib.hid (fun W hI hj => target_any l a c i x W hI hok hx hk hj hrg)
  have HIN := Lib.hid (fun (W : World) (hk : Kept (fun _ => False) w W) => h.kept hk)
  obtain ⟨g, off, rfl, hg, c0, c1, c2, c3, c4⟩ := h.at_ hx
  have hcn := @call_nojump x
  clear h hok hx hk hxo hrg
  generalize isCallB x = ic at *
  generalize isJumpB x = j at *
  cases j
  case true =>
    cases ic
    case true => exact absurd (hcn rfl) (by simp)
    case false =>
      simp only [Bool.false_eq_true, if_false] at hT
      subst hT
      clear hcn HT
      go_enter Tryz.func151, Tryz.ntmps151
      go_wp2_with fail
      refine (HJ.out _).mono ?_
      rintro e w1 ⟨rfl, hk1⟩
      go_wp2_with fail
      go_ret2
      exact ⟨rfl, hk1⟩
  case false =>
    clear hcn
    rw [hT] at HT
    cases ic
    all_goals
      simp only [Bool.false_eq_true, if_false, if_true] at hT
      clear hT
      go_enter Tryz.func151, Tryz.ntmps151
      go_wp2_with fail
      refine (HJ.out _).mono ?_
      rintro e w1 ⟨rfl, hk1⟩
      go_wp2_with fail
      refine (HT.out _ (HIN.out _ hk1) (by first | rfl | trivial)).mono ?_
      rintro e w2 ⟨rfl, hk2⟩
      have hK2 := hk1.trans hk2 (fun _ _ h => h)
      go_wp2_with fail
      go_ret2
      exact ⟨rfl, hK2⟩

end Go.Proofs.YtdchmelgaljpfaaGreat

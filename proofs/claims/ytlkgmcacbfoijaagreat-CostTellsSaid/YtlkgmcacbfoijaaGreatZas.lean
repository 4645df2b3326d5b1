import Derived.Test.YtlkgmcacbfoijaaGreatKcx
set_option linter.unusedSimpArgs false
set_option linter.unusedVariables false
namespace Go.Proofs.YtlkgmcacbfoijaaGreat
open Go.RowKit

/-! ### flow.Reached -/
set_option maxHeartbeats 4000000 in
set_option maxRecDepth 100000 in
theorem fReached_any (l : List In) (a : Option Addr) (c : Nat) (w : World) (h : Ins w (.slice a l.length c) l) (hok : InsOk l) :
    Calls Tryz.prog 39 #[.slice a l.length c] w fun e w' => ∃ ov, e = .returned (.tuple #[ov, .int .i64 (checkI l)]) ∧ (checkI l = 0 → Bls w' ov (rchL l)) ∧ Kept (fun _ => False) w w' ∧ ∀ g, ov.ownBlock = some g → w.heap.size ≤ g := by
  have HCK := Lib.hid (fun W hI => icheck_any l a c W hI hok)
  have HRE := Lib.hid (fun hz W hI => freached_any l a c W hI hok hz)
  have HIN := Lib.hid (fun (W : World) (hk : Kept (fun _ => False) w W) => h.kept hk)
  clear h hok
  by_cases hz : checkI l = 0
  case neg =>
    have hzd : (checkI l != 0) = true := by simpa using hz
    generalize checkI l = r at *
    have HNZ := Lib.hid hz
    clear hz HRE
    go_enter Tryz.func39, Tryz.ntmps39
    go_wp2_with fail
    refine (HCK.out _ (HIN.out _ (Kept.refl _ w))).mono ?_
    rintro e w1 ⟨⟨p, rfl⟩, hk1⟩
    go_wp2_with fail
    go_ret2
    exact ⟨_, rfl, fun h => absurd h HNZ.out, hk1, fun g hg => by simp [Value.ownBlock] at hg⟩
  case pos =>
    have HRE2 := Lib.hid (HRE.out hz)
    rw [hz] at HCK
    rw [hz]
    clear hz HRE
    go_enter Tryz.func39, Tryz.ntmps39
    go_wp2_with fail
    refine (HCK.out _ (HIN.out _ (Kept.refl _ w))).mono ?_
    rintro e w1 ⟨⟨p, rfl⟩, hk1⟩
    go_wp2_with fail
    refine (HRE2.out _ (HIN.out _ hk1)).mono ?_
    rintro e w2 ⟨ov, rfl, hB, hk2, ho2⟩
    have hsz := hk1.size
    go_wp2_with fail
    go_ret2
    exact ⟨_, rfl, fun _ => hB, hk1.trans hk2 (fun _ _ h => h), fun g hg => by have := ho2 g hg; omega⟩

/-! ### the document's next -/
def nextR (i : Nat) (x : In) : List Int := if isR x 9 = true then [] else if isR x 0 = true then [(i : Int) + 1 + x.off] else if cmpR x = true then (if (x.off == 0) = true then [(i : Int) + 1] else [(i : Int) + 1, (i : Int) + 1 + x.off])
  else if (x.op == 24) = true then [(i : Int) + 2] else [(i : Int) + 1]
theorem nextR_eq {i : Nat} {x : In} (h : InOk x) (hk : knownB x = true) : nextR i x = nextC i x := by
  have hj := jump_eq h hk
  have h9 := isR9 h hk
  have h0 := isR0 h hk
  unfold nextR nextC
  rw [h9, h0]
  rw [h0] at hj
  cases e9 : (x.op == 149)
  · cases e0 : (x.op == 5)
    · rw [e0, Bool.false_or] at hj
      rw [hj]
      cases ec : cmpR x
      · cases e24 : (x.op == 24) <;> simp
      · have e24 : (x.op == 24) = false := by
          rw [ec] at hj
          cases e : (x.op == 24)
          · rfl
          · rw [wide_nojump (by simpa using e)] at hj
            cases hj
        rw [e24]
        cases eo : (x.off == 0)
        · simp
        · have : x.off = 0 := by simpa using eo
          simp [this]
    · have e24 : (x.op == 24) = false := by
        have : x.op = 5 := by simpa using e0
        rw [this]
        rfl
      rw [e0, Bool.true_or] at hj
      rw [e24, hj]
      simp
  · simp
set_option maxHeartbeats 8000000 in
set_option maxRecDepth 100000 in
theorem rnext_any (l : List In) (a : Option Addr) (c i : Nat) (x : In) (w : World) (h : Ins w (.slice a l.length c) l) (hok : InsOk l) (hx : l[i]? = some x) :
    Calls Tryz.prog 37 #[.slice a l.length c, .int .i64 i] w fun e w' => ∃ ov, e = .returned ov ∧ Ints w' ov (nextR i x) ∧ Kept (fun _ => False) w w' ∧ ∀ g, ov.ownBlock = some g → w.heap.size ≤ g := by
  have hlen := hok.len
  have hi := (List.getElem?_eq_some_iff.1 hx).1
  have hxo := hok.at_ hx
  have hoff := hxo.off
  have H9 := Lib.hid (fun W => ris_any x 9 W hxo)
  have H0 := Lib.hid (fun W => ris_any x 0 W hxo)
  have HC := Lib.hid (fun W => rcompares_any x W hxo)
  have HW := Lib.hid (fun W => rwide_any x W)
  obtain ⟨N, hN⟩ : ∃ N, nextR i x = N := ⟨_, rfl⟩
  rw [hN]
  unfold nextR at hN
  generalize isR x 9 = b9 at *
  generalize isR x 0 = b0 at *
  generalize cmpR x = bc at *
  obtain ⟨g, off, rfl, hg, c0, c1, c2, c3, c4⟩ := h.at_ hx
  have hBn := Blk.new w 47 (inVals x)
  have hKn : Kept (fun _ => False) w (w.alloc (.cells (inVals x) 47)) := (Kept.refl _ w).alloc _
  clear h hok hx hxo
  have HN := Lib.hid hN
  clear hN
  go_enter Tryz.func37, Tryz.ntmps37
  go_wp2_with fail
  refine (H9.out _).mono ?_
  rintro e w1 ⟨rfl, hk1⟩
  have hK1 := hKn.trans hk1 (fun _ _ h => h)
  have hb1 := hk1.blk (fun h => h) hBn
  clear hBn hKn hk1
  cases b9
  case true =>
    have hN := HN.out
    simp only [if_true] at hN
    subst hN
    go_wp2_with fail
    go_ret
    exact ⟨_, rfl, Sl.nil _ _ _, hK1, fun g hg => by simp [Value.ownBlock] at hg⟩
  case false =>
  have x0 := hb1.cell 0
  have x1 := hb1.cell 1
  have x2 := hb1.cell 2
  have x3 := hb1.cell 3
  have x4 := hb1.cell 4
  go_wp2_with fail
  refine (H0.out _).mono ?_
  rintro e w2 ⟨rfl, hk2⟩
  have hK2 := hK1.trans hk2 (fun _ _ h => h)
  have hb2 := hk2.blk (fun h => h) hb1
  have hz2 := hK2.size
  clear x0 x1 x2 x3 x4 hb1 hK1 hk2
  have x0 := hb2.cell 0
  have x1 := hb2.cell 1
  have x2 := hb2.cell 2
  have x3 := hb2.cell 3
  have x4 := hb2.cell 4
  cases b0
  case true =>
    have hN := HN.out
    simp only [if_true, if_false, Bool.false_eq_true] at hN
    subst hN
    go_wp2_with fail
    go_ret
    exact ⟨_, rfl, ints_one _ _, hK2.alloc _, fun g hg => by simp [Value.ownBlock] at hg; omega⟩
  case false =>
  go_wp2_with fail
  refine (HC.out _).mono ?_
  rintro e w3 ⟨rfl, hk3⟩
  have hK3 := hK2.trans hk3 (fun _ _ h => h)
  have hb3 := hk3.blk (fun h => h) hb2
  have hz3 := hK3.size
  clear x0 x1 x2 x3 x4 hb2 hK2 hk3 hz2
  have x0 := hb3.cell 0
  have x1 := hb3.cell 1
  have x2 := hb3.cell 2
  have x3 := hb3.cell 3
  have x4 := hb3.cell 4
  have hlt3 := hb3.lt
  cases bc
  case true =>
    cases eo : (x.off == 0)
    case true =>
      have hN := HN.out
      simp only [if_true, if_false, Bool.false_eq_true, eo] at hN
      subst hN
      clear HN
      go_wp2_with fail
      go_ret
      exact ⟨_, rfl, ints_one _ _, hK3.alloc _, fun g hg => by simp [Value.ownBlock] at hg; omega⟩
    case false =>
      have hN := HN.out
      simp only [if_true, if_false, Bool.false_eq_true, eo] at hN
      subst hN
      clear HN
      go_wp2_with fail
      go_ret
      exact ⟨_, rfl, ints_two _ _ _, hK3.alloc _, fun g hg => by simp [Value.ownBlock] at hg; omega⟩
  case false =>
    cases e24 : (x.op == 24)
    all_goals
      rw [e24] at HW
      have hN := HN.out
      simp only [if_true, if_false, Bool.false_eq_true, e24] at hN
      subst hN
      clear HN
      go_wp2_with (go_at_call 61; refine (HW.out _).mono ?_; rintro e w4 ⟨rfl, rfl⟩)
      go_ret
      exact ⟨_, rfl, ints_one' (n := w3.heap.size + 1) (w3.alloc (.cells (inVals x) 47)) _ (by show _ = (Array.push _ _).size; rw [Array.size_push]), (hK3.alloc _).alloc _, fun g hg => by simp [Value.ownBlock] at hg; omega⟩

end Go.Proofs.YtlkgmcacbfoijaaGreat

set_option linter.unusedSimpArgs false
set_option linter.unusedVariables false
namespace Go.Proofs.YtlkgmcacbfoijaaGreat
open Go.RowKit

/-! ### programs without a fault, by what begins and where slots go -/
def behI (i : Nat) (x : In) : Nat := if x.op = 24 then i + 2 else i + 1
/-- no subprogram begins between two slots -/
def SameP (l : List In) (i n : Nat) : Prop := ∀ b ∈ beginsL l, b ≤ (i : Int) ↔ b ≤ (n : Int)
structure Va (l : List In) : Prop where
  one : 1 ≤ l.length
  most : l.length ≤ 4096
  wr : ∀ (i : Nat) (x : In), l[i]? = some x → (secL l)[i]? = some false → wrongC l i x = 0
  few : (beginsL l).length ≤ 64
  fall : ∀ (i : Nat) (x : In), l[i]? = some x → (secL l)[i]? = some false → x.op ≠ 149 → x.op ≠ 5 → behI i x < l.length ∧ (secL l)[behI i x]? = some false ∧ SameP l i (behI i x)
  jmp : ∀ (i : Nat) (x : In), l[i]? = some x → (secL l)[i]? = some false → isJumpB x = true → ∃ n : Nat, (i : Int) + 1 + x.off = n ∧ n < l.length ∧ (secL l)[n]? = some false ∧ SameP l i n
theorem SameP.symm {l : List In} {i n : Nat} (h : SameP l i n) : SameP l n i := fun b hb => (h b hb).symm
theorem SameP.trans {l : List In} {i n m : Nat} (h : SameP l i n) (k : SameP l n m) : SameP l i m := fun b hb => (h b hb).trans (k b hb)
theorem scan_of {l : List In} : ∀ (n i : Nat), (∀ k, i ≤ k → k < i + n → slotC l k = 0) → scanC l i n = 0
  | 0, i, _ => rfl
  | n + 1, i, h => by
    unfold scanC
    rw [if_pos (h i (Nat.le_refl _) (by omega))]
    exact scan_of n (i + 1) (fun k h1 h2 => h k (by omega) (by omega))
theorem slots_of {l : List In} (h1 : 1 ≤ l.length) (h2 : l.length ≤ 4096) (h : ∀ (i : Nat) (x : In), l[i]? = some x → (secL l)[i]? = some false → wrongC l i x = 0) : slotsC l = 0 := by
  unfold slotsC
  rw [if_neg (by omega)]
  refine scan_of _ _ fun k _ hk => ?_
  unfold slotC
  cases hx : l[k]? with
  | none => rfl
  | some x =>
    cases hb : (secL l)[k]? with
    | none => rfl
    | some b =>
      cases b
      · exact h k x hx hb
      · rfl
/-- a slot's subprogram, by the begins -/
theorem part_begins {l : List In} (h : slotsC l = 0) {t : Int} (h0 : 0 ≤ t) (ht : t < l.length) : ∃ k : Nat, ofC (partsL l) t = k ∧ k < (beginsL l).length ∧ ∀ j, j < (beginsL l).length → ((beginsL l).getD j 0 ≤ t ↔ j ≤ k) := by
  obtain ⟨k, p, hp, h1, h2, h3⟩ := part_ex h h0 ht
  obtain ⟨hk, rfl⟩ := parts_at hp
  refine ⟨k, h3, hk, fun j hj => ⟨fun h4 => ?_, fun h4 => ?_⟩⟩
  · rcases Nat.lt_or_ge k j with h5 | h5
    · exfalso
      unfold partAt at h2
      rw [if_pos (by omega)] at h2
      simp only at h2
      rcases Nat.eq_or_lt_of_le (show k + 1 ≤ j from h5) with rfl | h6
      · omega
      · have := begins_lt h h6 hj
        omega
    · exact h5
  · rcases Nat.eq_or_lt_of_le h4 with rfl | h6
    · exact h1
    · have := begins_lt h h6 hk
      have h7 : (beginsL l).getD k 0 ≤ t := h1
      omega
theorem same_iff {l : List In} (h : slotsC l = 0) {i n : Nat} (hi : i < l.length) (hn : n < l.length) : SameP l i n ↔ ofC (partsL l) n = ofC (partsL l) i := by
  obtain ⟨k, e1, hk, h1⟩ := part_begins h (t := i) (by omega) (by omega)
  obtain ⟨m, e2, hm, h2⟩ := part_begins h (t := n) (by omega) (by omega)
  have hget : ∀ j (hj : j < (beginsL l).length), (beginsL l).getD j 0 ∈ beginsL l := fun j hj => by
    rw [List.getD_eq_getElem?_getD, List.getElem?_eq_getElem hj]
    exact List.getElem_mem hj
  rw [e1, e2]
  constructor
  · intro hs
    have a1 := (h2 k hk).1 ((hs _ (hget k hk)).1 ((h1 k hk).2 (Nat.le_refl _)))
    have a2 := (h1 m hm).1 ((hs _ (hget m hm)).2 ((h2 m hm).2 (Nat.le_refl _)))
    omega
  · intro e b hb
    obtain ⟨j, hj, rfl⟩ := List.mem_iff_getElem.1 hb
    have e3 : (beginsL l)[j] = (beginsL l).getD j 0 := by rw [List.getD_eq_getElem?_getD, List.getElem?_eq_getElem hj]; rfl
    rw [e3, h1 j hj, h2 j hj]
    omega
theorem beh_eq {i : Nat} {x : In} : behI i x = if x.op = 24 then i + 2 else i + 1 := rfl
theorem va_of {l : List In} (h : checkI l = 0) : Va l := by
  obtain ⟨hz, h64, _, _⟩ := check_parts h
  obtain ⟨h1, h2, h3⟩ := slots_zero hz
  refine ⟨h1, h2, fun i x hx hs => ?_, by rw [← parts_len]; exact h64, fun i x hx hs h149 h5 => ?_, fun i x hx hs hj => ?_⟩
  · have := h3 i (List.getElem?_eq_some_iff.1 hx).1
    rwa [slot_wrong hx hs] at this
  · obtain ⟨a, b, c⟩ := behind_ok h hx hs h149 h5 beh_eq
    exact ⟨a, b, (same_iff hz (List.getElem?_eq_some_iff.1 hx).1 a).2 c⟩
  · obtain ⟨n, a, b, c, d⟩ := jump_ok h hx hs hj
    exact ⟨n, a, b, c, (same_iff hz (List.getElem?_eq_some_iff.1 hx).1 b).2 d⟩
theorem check_va {l : List In} (h : Va l) : checkI l = 0 := by
  have hz := slots_of h.one h.most h.wr
  refine check_of hz (by rw [parts_len]; exact h.few) (fun p hp => ?_) fun i hi => ?_
  · obtain ⟨k, hk⟩ := List.mem_iff_getElem?.1 hp
    obtain ⟨f, t, rfl, hft, htl⟩ := (parts_ok hz).nat hk
    have hpe := part_end hz hk
    simp only [Int.toNat_natCast] at hpe
    obtain ⟨m, rfl⟩ : ∃ m, t = m + 1 := ⟨t - 1, by omega⟩
    obtain ⟨hkb, hpa⟩ := parts_at hk
    -- the last slot of a part
    have hlast : ∀ (i : Nat) (x : In), l[i]? = some x → (secL l)[i]? = some false → f ≤ i → (i = m ∨ i + 1 = m ∧ (secL l)[m]? = some true) → x.op = 149 ∨ x.op = 5 := by
      intro i x hx hs hfi him
      by_cases h149 : x.op = 149
      · exact .inl h149
      by_cases h5 : x.op = 5
      · exact .inr h5
      exfalso
      obtain ⟨a1, a2, a3⟩ := h.fall i x hx hs h149 h5
      have ho := (same_iff hz (List.getElem?_eq_some_iff.1 hx).1 a1).1 a3
      have hpi := part_of hz hk (t := i) (by simp only; omega) (by simp only; omega)
      rw [hpi] at ho
      obtain ⟨k2, p2, hp2, q1, q2, q3⟩ := part_ex hz (t := (behI i x : Nat)) (by omega) (by omega)
      rw [ho] at q3
      obtain rfl : k = k2 := Int.ofNat_inj.1 q3
      rw [hk] at hp2
      cases hp2
      simp only at q1 q2
      have hbe : behI i x = i + 1 ∨ behI i x = i + 2 := by unfold behI; split <;> simp
      rcases him with rfl | ⟨him, hsm⟩
      · omega
      · rcases hbe with e | e
        · rw [e, him, hsm] at a2
          cases a2
        · omega
    unfold endB lastC
    simp only [Int.toNat_natCast, Nat.add_sub_cancel]
    obtain ⟨b, hb⟩ := sec_get (l := l) (i := m) (by omega)
    rw [hb]
    cases b
    · rw [if_neg (by simp)]
      obtain ⟨x, hx⟩ : ∃ x, l[m]? = some x := ⟨_, List.getElem?_eq_getElem (by omega)⟩
      rw [hx]
      rcases hlast m x hx hb (by omega) (.inl rfl) with e | e <;> simp [e]
    · rw [if_pos rfl]
      obtain ⟨q, rfl⟩ : ∃ q, m = q + 1 := ⟨m - 1, by
        rcases Nat.eq_zero_or_pos m with rfl | h
        · rw [sec_zero (by omega)] at hb; cases hb
        · omega⟩
      obtain ⟨x, hx⟩ : ∃ x, l[q]? = some x := ⟨_, List.getElem?_eq_getElem (by omega)⟩
      obtain ⟨b2, hb2⟩ := sec_get (l := l) (i := q) (by omega)
      have hsu := sec_succ hx hb2 (by omega)
      rw [hb] at hsu
      have hb2' : (secL l)[q]? = some false := by
        cases b2
        · exact hb2
        · simp at hsu
      have hfq : f ≤ q := by
        have hbf := (begins_ok hz).2.2 ((f : Nat) : Int) (by
          have e : ((f : Nat) : Int) = (beginsL l).getD k 0 := congrArg Prod.fst hpa
          rw [e, List.getD_eq_getElem?_getD, List.getElem?_eq_getElem hkb]
          exact List.getElem_mem hkb)
        rcases Nat.lt_or_ge q f with h6 | h6
        · exfalso
          obtain rfl : f = q + 1 := by omega
          have := hbf.2.2
          rw [Int.toNat_natCast, hb] at this
          cases this
        · exact h6
      rw [show q + 1 + 1 - 2 = q by omega, hx]
      rcases hlast q x hx hb2' hfq (.inr ⟨rfl, hb⟩) with e | e <;> simp [e]
  · unfold badR
    cases hx : l[i]? with
    | none => rfl
    | some x =>
      cases hb : (secL l)[i]? with
      | none => rfl
      | some b =>
        cases b
        case true => rfl
        case false =>
          simp only
          cases hj : isJumpB x
          · rfl
          · obtain ⟨n, e, h1, h2, h3⟩ := h.jmp i x hx hb hj
            have ho := (same_iff hz hi h1).1 h3
            have ht : toR l.length i x.off = n := by
              unfold toR
              rw [if_neg (by omega), if_neg (by omega), e]
            rw [ht, Int.toNat_natCast, h2, ho]
            have : decide ((n : Int) < 0) = false := decide_eq_false (by omega)
            rw [this]
            simp

end Go.Proofs.YtlkgmcacbfoijaaGreat
set_option linter.unusedSimpArgs false
set_option linter.unusedVariables false
namespace Go.Proofs.YtlkgmcacbfoijaaGreat
open Go.RowKit

/-! ### slots that are kept -/
theorem len_le_of_sub : ∀ {a b : List Int}, a.Nodup → (∀ x ∈ a, x ∈ b) → a.length ≤ b.length
  | [], b, _, _ => Nat.zero_le _
  | y :: a, b, hn, hs => by
    rw [List.nodup_cons] at hn
    have hy := hs y (List.mem_cons_self ..)
    have := len_le_of_sub (a := a) (b := b.erase y) hn.2 (fun x hx => by
      have hne : x ≠ y := fun e => hn.1 (by rw [← e]; exact hx)
      exact (List.mem_erase_of_ne hne).2 (hs x (List.mem_cons_of_mem _ hx)))
    rw [List.length_erase_of_mem hy] at this
    have := List.length_pos_of_mem hy
    simp only [List.length_cons]
    omega
theorem rising_nodup {a : List Int} (h : a.Pairwise (· < ·)) : a.Nodup := h.imp (fun h e => by omega)

/-! ### rows without jumps and calls -/
theorem sec_none : ∀ {l : List In}, (∀ x ∈ l, x.op ≠ 24) → ∀ i, i < l.length → (secG false l)[i]? = some false
  | [], _, i, h => by simp at h
  | x :: l, hx, 0, _ => rfl
  | x :: l, hx, i + 1, h => by
    have h24 : (x.op == 24) = false := by simpa using hx x (List.mem_cons_self ..)
    simp only [secG, List.getElem?_cons_succ, h24, Bool.false_and]
    exact sec_none (fun y hy => hx y (List.mem_cons_of_mem _ hy)) i (by simpa using h)
/-- slots that go on at the next one, and an exit as the last -/
structure Plain (l : List In) : Prop where
  one : 1 ≤ l.length
  most : l.length ≤ 4096
  mid : ∀ (i : Nat) (x : In), l[i]? = some x → i + 1 < l.length → x.op ≠ 24 ∧ isCallB x = false ∧ isJumpB x = false ∧ x.op ≠ 149 ∧ x.op ≠ 5 ∧ wrongC l i x = 0
  last : ∀ x, l[l.length - 1]? = some x → x.op = 149 ∧ wrongC l (l.length - 1) x = 0
theorem Plain.any {l : List In} (h : Plain l) {i : Nat} {x : In} (hx : l[i]? = some x) : x.op ≠ 24 ∧ isCallB x = false ∧ isJumpB x = false ∧ wrongC l i x = 0 := by
  have hi := (List.getElem?_eq_some_iff.1 hx).1
  by_cases e : i + 1 < l.length
  · obtain ⟨a, b, c, _, _, d⟩ := h.mid i x hx e
    exact ⟨a, b, c, d⟩
  · obtain rfl : i = l.length - 1 := by omega
    obtain ⟨a, b⟩ := h.last x hx
    refine ⟨by omega, ?_, exit_nojump a, b⟩
    unfold isCallB
    rw [a]
    rfl
theorem Plain.sec {l : List In} (h : Plain l) : ∀ i, i < l.length → (secL l)[i]? = some false := sec_none fun x hx => by
  obtain ⟨i, hi⟩ := List.mem_iff_getElem?.1 hx
  exact (h.any hi).1
theorem Plain.begins {l : List In} (h : Plain l) : ∀ b ∈ beginsL l, b = 0 := fun b hb => by
  have hz : slotsC l = 0 := slots_of h.one h.most (fun i x hx _ => (h.any hx).2.2.2)
  rcases ((begins_ok hz).2.1 b).1 hb with h0 | ⟨i, _, h0⟩
  · exact h0
  · exfalso
    unfold tgtC at h0
    cases hx : l[i]? with
    | none => rw [hx] at h0; cases h0
    | some x =>
      rw [hx] at h0
      have hc := (h.any hx).2.1
      cases hs : (secL l)[i]? with
      | none => rw [hs] at h0; cases h0
      | some b =>
        rw [hs] at h0
        cases b
        · simp [hc] at h0
        · cases h0
theorem Plain.va {l : List In} (h : Plain l) : Va l := by
  have hb := h.begins
  have hsame : ∀ i m, SameP l i m := fun i m b hbm => by rw [hb b hbm]; omega
  refine ⟨h.one, h.most, fun i x hx _ => (h.any hx).2.2.2, ?_, fun i x hx hs h149 h5 => ?_, fun i x hx hs hj => ?_⟩
  · have hz : slotsC l = 0 := slots_of h.one h.most (fun i x hx _ => (h.any hx).2.2.2)
    have := len_le_of_sub (b := [0]) (rising_nodup (begins_ok hz).1) (fun b hbm => by rw [hb b hbm]; simp)
    simp at this
    omega
  · have hi := (List.getElem?_eq_some_iff.1 hx).1
    have hlt : i + 1 < l.length := by
      rcases Nat.lt_or_ge (i + 1) l.length with e | e
      · exact e
      · obtain rfl : i = l.length - 1 := by omega
        exact absurd (h.last x hx).1 h149
    have hbe : behI i x = i + 1 := by unfold behI; rw [if_neg (h.any hx).1]
    rw [hbe]
    exact ⟨hlt, h.sec _ hlt, hsame _ _⟩
  · rw [(h.any hx).2.2.1] at hj
    cases hj
theorem Plain.check {l : List In} (h : Plain l) : checkI l = 0 := check_va h.va
theorem Plain.next {l : List In} (h : Plain l) {i : Nat} {x : In} (hx : l[i]? = some x) (hi : i + 1 < l.length) : nextC i x = [(i : Int) + 1] := by
  obtain ⟨a, b, c, d, e, _⟩ := h.mid i x hx hi
  have e1 : (x.op == 149) = false := by simpa using d
  have e2 : (x.op == 24) = false := by simpa using a
  unfold nextC
  rw [e1, e2, c]
  rfl
theorem Plain.rch {l : List In} (h : Plain l) : ∀ i, i < l.length → Rch l i := by
  intro i
  induction i with
  | zero => exact fun _ => .zero
  | succ i ih =>
    intro hi
    obtain ⟨x, hx⟩ : ∃ x, l[i]? = some x := ⟨_, List.getElem?_eq_getElem (by omega)⟩
    refine .step (ih (by omega)) ?_
    rw [succ_at hx, h.next hx hi]
    simp
theorem Plain.rchL {l : List In} (h : Plain l) {i : Nat} (hi : i < l.length) : (rchL l)[i]? = some true := by
  rw [rchL_get hi]
  exact congrArg some (@decide_eq_true _ (Classical.propDecidable _) (h.rch i hi))

end Go.Proofs.YtlkgmcacbfoijaaGreat

